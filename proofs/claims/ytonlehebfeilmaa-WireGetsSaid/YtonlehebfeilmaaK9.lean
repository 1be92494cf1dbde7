/- Parts of values, slices of strings and rows, conversions, new rows and structs. -/
import Derived.Test.YtonlehebfeilmaaK8
import Derived.Laws.Slices
namespace Go.Proofs.Ytonlehebfeilmaa.K
open Go Go.RowKit

variable {P : Program}

def partD (ag : Bool) (l : List D) (off n : Nat) : D := if ag then .agg ((l.drop off).take n) else l.getD off default
def partP (ag : Bool) (l : List PV) (off n : Nat) : PV := if ag then .agg ((l.drop off).take n) else l.getD off .junk

theorem run_part {m : Mem} {l : List D} {vs : List Value} (hl : RepL m l vs) (h1 : ∀ v ∈ vs, v.oneCell' = true) {t : TypeId} {ag : Bool} {n off : Nat} (ht : tyA P t = some (ag, n)) (hn : off + n ≤ l.length) (hp : 0 < n) (w : World) :
    ∃ u, (part t ⟨vs⟩ off).run P w = .ok u w ∧ RepD m (partD ag l off n) u := by
  obtain ⟨e1, e2⟩ := tyA_spec ht w
  cases ag with
  | true =>
    refine ⟨.agg ⟨(vs.drop off).take n⟩, ?_, ?_⟩
    · simp [part, e1, e2]
    · simp only [partD, if_true, RepD]
      exact ⟨_, rfl, repL_take n (repL_drop off hl), fun u hu => h1 u (List.mem_of_mem_drop (List.mem_of_mem_take hu))⟩
  | false =>
    obtain ⟨v, h3, h4⟩ := repL_get hl (i := off) (by omega)
    refine ⟨v, ?_, by simpa [partD] using h4⟩
    simp [part, e1, h3]

theorem run_partP {m : Mem} {ρ : Ren} {l : List PV} {vs : List Value} (hl : RepP m ρ l vs) (h1 : ∀ v ∈ vs, v.oneCell' = true) {t : TypeId} {ag : Bool} {n off : Nat} (ht : tyA P t = some (ag, n)) (hn : off + n ≤ l.length) (hp : 0 < n) (w : World) :
    ∃ u, (part t ⟨vs⟩ off).run P w = .ok u w ∧ Rep m ρ (partP ag l off n) u := by
  obtain ⟨e1, e2⟩ := tyA_spec ht w
  cases ag with
  | true =>
    refine ⟨.agg ⟨(vs.drop off).take n⟩, ?_, ?_⟩
    · simp [part, e1, e2]
    · simp only [partP, if_true, Rep]
      exact ⟨_, rfl, repP_take n (repP_drop off hl), fun u hu => h1 u (List.mem_of_mem_drop (List.mem_of_mem_take hu))⟩
  | false =>
    obtain ⟨v, h3, h4⟩ := repP_get hl (i := off) (by omega)
    refine ⟨v, ?_, by simpa [partP] using h4⟩
    simp [part, e1, h3]

def fieldP (fi : Option (Nat × Nat × Bool)) (p : PV) : PV × Prop :=
  match fi, p with
  | some (off, n, ag), .d (.agg l) => (.d (partD ag l off n), off + n ≤ l.length ∧ 0 < n)
  | some (off, n, ag), .agg l => (partP ag l off n, off + n ≤ l.length ∧ 0 < n)
  | _, _ => (.junk, False)

theorem field_sound {o : Oper} {S : Nat → PV} {t : TypeId} {x : Operand} {f : Nat} (ho : o.op = .field t x f) (h : (fieldP (fldA P t f) (evP S x)).2) : PureRun P o S (fieldP (fldA P t f) (evP S x)).1 := by
  refine PureRun.still fun m ρ a w hm hx => ?_
  have h1 := hx x (by simp [ho, Op.operands])
  obtain ⟨dst, op', type, pos, after, guard⟩ := o
  simp only at ho
  subst ho
  generalize evP S x = p at *
  unfold fieldP at h ⊢
  split at h
  · rename_i off n ag l hfi
    obtain ⟨fs, fd, hu, hf, hoff, ht⟩ := fldA_spec hfi
    simp only [Rep, RepD] at h1
    obtain ⟨vs, e, hl, h1'⟩ := h1
    obtain ⟨u, hr, hrep⟩ := run_part (P := P) hl h1' ht h.1 h.2 w
    refine ⟨u, ?_, by simpa [Rep] using hrep⟩
    simp [execOp, Instr.field, run_underlying hu, hf, e, asAgg, hoff, hr]
  · rename_i off n ag l hfi
    obtain ⟨fs, fd, hu, hf, hoff, ht⟩ := fldA_spec hfi
    simp only [Rep] at h1
    obtain ⟨vs, e, hl, h1'⟩ := h1
    obtain ⟨u, hr, hrep⟩ := run_partP (P := P) hl h1' ht h.1 h.2 w
    refine ⟨u, ?_, hrep⟩
    simp [execOp, Instr.field, run_underlying hu, hf, e, asAgg, hoff, hr]
  · exact h.elim

def byteD (b : UInt8) : D := .val (.int .u8 b.toNat)

def indexP (ar : Option (Nat × Nat × Bool)) (p i : PV) : PV × Prop :=
  match i with
  | .d (.val (.int _ i)) =>
    match ar, p with
    | some (n, sz, ag), .d (.agg l) => (.d (partD ag l (i.toNat * sz) sz), (0 ≤ i ∧ i < (n : Int)) ∧ n * sz = l.length ∧ 0 < sz)
    | some (n, sz, ag), .agg l => (partP ag l (i.toNat * sz) sz, (0 ≤ i ∧ i < (n : Int)) ∧ n * sz = l.length ∧ 0 < sz)
    | none, .d (.val (.string s)) => (.d (byteD (s.data.toList.getD i.toNat 0)), 0 ≤ i ∧ i < (s.size : Int))
    | _, _ => (.junk, False)
  | _ => (.junk, False)

theorem mul_fits {i n sz : Nat} (h : i < n) : i * sz + sz ≤ n * sz := by
  have := Nat.mul_le_mul_right sz (show i + 1 ≤ n from h)
  rwa [Nat.succ_mul] at this

theorem index_sound {o : Oper} {S : Nat → PV} {t : TypeId} {x y : Operand} (ho : o.op = .index t x y) (hstr : arrA P t = none → P.underlying t = some .string) (h : (indexP (arrA P t) (evP S x) (evP S y)).2) : PureRun P o S (indexP (arrA P t) (evP S x) (evP S y)).1 := by
  refine PureRun.still fun m ρ a w hm hx => ?_
  have h1 := hx x (by simp [ho, Op.operands])
  have h2 := hx y (by simp [ho, Op.operands])
  obtain ⟨dst, op', type, pos, after, guard⟩ := o
  simp only at ho
  subst ho
  generalize evP S x = p at *
  generalize evP S y = q at *
  unfold indexP at h ⊢
  split at h
  · rename_i q' k i
    simp only [Rep, RepD] at h2
    split at h
    · rename_i n sz ag l har
      obtain ⟨⟨h3, h4⟩, h5, h6⟩ := h
      obtain ⟨e, hu, ht⟩ := arrA_spec har
      simp only [Rep, RepD] at h1
      obtain ⟨vs, ev, hl, h1'⟩ := h1
      have hs := (tyA_spec ht w).2
      obtain ⟨u, hr, hrep⟩ := run_part (P := P) (off := i.toNat * sz) hl h1' ht (by rw [← h5]; exact mul_fits (by omega)) h6 w
      refine ⟨u, ?_, by simpa [Rep] using hrep⟩
      simp [execOp, Instr.index, h2, asIntOf, ev, run_underlying hu, hs, h3, h4, hr]
    · rename_i n sz ag l har
      obtain ⟨⟨h3, h4⟩, h5, h6⟩ := h
      obtain ⟨e, hu, ht⟩ := arrA_spec har
      simp only [Rep] at h1
      obtain ⟨vs, ev, hl, h1'⟩ := h1
      have hs := (tyA_spec ht w).2
      obtain ⟨u, hr, hrep⟩ := run_partP (P := P) (off := i.toNat * sz) hl h1' ht (by rw [← h5]; exact mul_fits (by omega)) h6 w
      refine ⟨u, ?_, hrep⟩
      simp [execOp, Instr.index, h2, asIntOf, ev, run_underlying hu, hs, h3, h4, hr]
    · rename_i s har
      obtain ⟨h3, h4⟩ := h
      have hu := hstr har
      simp only [Rep, RepD] at h1
      have hlt : i.toNat < s.size := by omega
      have hlt' : i.toNat < s.data.size := hlt
      refine ⟨.int .u8 (s[i.toNat].toNat : Nat), ?_, ?_⟩
      · simp [execOp, Instr.index, h2, asIntOf, h1, run_underlying hu, h3, hlt]
      · simp only [Rep, RepD, byteD]
        have : s.data.toList.getD i.toNat 0 = s[i.toNat] := by
          simp only [List.getD_eq_getElem?_getD, Array.getElem?_toList, Array.getElem?_eq_getElem hlt', Option.getD_some]
          rfl
        rw [this]
    · exact h.elim
  · exact h.elim

/-! ### Slices -/

def bnd (d : Int) : Option PV → Option Int
  | none => some d
  | some (.d (.val (.int _ i))) => some i
  | some _ => none

def sliceP (isStr : Bool) (sl ar : Option (Nat × Nat × Bool)) (p : PV) (lo hi mx : Option PV) : PV × Prop :=
  if isStr then
    match p with
    | .d (.val (.string s)) => match bnd 0 lo, bnd s.size hi, mx with
      | some l, some h, none => (.d (.val (.string (s.extract l.toNat h.toNat))), 0 ≤ l ∧ l ≤ h ∧ h ≤ (s.size : Int))
      | _, _, _ => (.junk, False)
    | _ => (.junk, False)
  else
    match sl, ar with
    | some (sz, _, _), _ => match p.elems with
      | some e => match bnd 0 lo, bnd e.length hi, mx with
        | some l, some h, none => (.d (.slice ((e.drop l.toNat).take (h - l).toNat)), (0 ≤ l ∧ l ≤ h ∧ h ≤ (e.length : Int)) ∧ ∀ x ∈ e, x.cells.length = sz)
        | some l, some h, some (.d (.val (.int _ q))) => (.full ((e.drop l.toNat).take (h - l).toNat), (0 ≤ l ∧ l ≤ h ∧ h ≤ (e.length : Int) ∧ h = q ∧ hi.isSome) ∧ ∀ x ∈ e, x.cells.length = sz)
        | _, _, _ => (.junk, False)
      | none => (.junk, False)
    | none, some (n, sz, _) => match p with
      | .d (.cptr c) => match bnd 0 lo, bnd n hi, mx with
        | some l, some h, none => ((if hi.isSome then .d (.slice ((c.drop l.toNat).take (h - l).toNat)) else .full ((c.drop l.toNat).take (h - l).toNat)), (0 ≤ l ∧ l ≤ h ∧ h ≤ (n : Int) ∧ n ≤ c.length ∧ sz = 1) ∧ ∀ x ∈ c, x.flat = true)
        | _, _, _ => (.junk, False)
      | _ => (.junk, False)
    | none, none => (.junk, False)

theorem bnd_rep {m : Mem} {ρ : Ren} {S : Nat → PV} {a : Act} {d : Int} {x : Option Operand} {i : Int} (h : bnd d (x.map (evP S)) = some i) (hx : ∀ y, x = some y → Rep m ρ (evP S y) (a.eval y)) :
    (x = none ∧ i = d) ∨ ∃ y k, x = some y ∧ a.eval y = .int k i := by
  cases x with
  | none => simp [bnd] at h; exact .inl ⟨rfl, h.symm⟩
  | some y =>
    have hr := hx y rfl
    simp only [Option.map_some] at h
    unfold bnd at h
    split at h
    · rename_i e; cases e
    · rename_i q k j e
      simp only [Option.some.injEq] at e h
      subst h
      rw [e] at hr
      simp only [Rep, RepD] at hr
      exact .inr ⟨y, k, rfl, hr⟩
    · cases h

theorem run_bound {w : World} {k : IntKind} {i : Int} {y : Nat} (code : BoundsCode) (h0 : 0 ≤ i) (h1 : i ≤ (y : Int)) : (Instr.sliceBound (.int k i) y code).run P w = .ok i.toNat w := by
  simp [Instr.sliceBound, asIntOf, h0, h1]

/-- The bounds of a slice without a third index. -/
theorem run_bounds {w : World} {m : Mem} {ρ : Ren} {S : Nat → PV} {a : Act} {isSl : Bool} {len cap : Nat} {lo hi : Option Operand} {l h : Int} (hl : bnd 0 (lo.map (evP S)) = some l) (hh : bnd len (hi.map (evP S)) = some h)
    (hxl : ∀ y, lo = some y → Rep m ρ (evP S y) (a.eval y)) (hxh : ∀ y, hi = some y → Rep m ρ (evP S y) (a.eval y)) (h0 : 0 ≤ l) (h1 : l ≤ h) (h2 : h ≤ (len : Int)) (h3 : len ≤ cap) :
    (Instr.sliceBounds isSl len cap (lo.map a.eval) (hi.map a.eval) none).run P w = .ok (l.toNat, h.toNat, cap) w := by
  have e : ((h.toNat : Nat) : Int) = h := Int.toNat_of_nonneg (by omega)
  rcases bnd_rep hl hxl with ⟨rfl, rfl⟩ | ⟨y, k, rfl, hy⟩ <;> rcases bnd_rep hh hxh with ⟨rfl, rfl⟩ | ⟨z, k', rfl, hz⟩
  · simp [Instr.sliceBounds]
  · simp [Instr.sliceBounds, hz, run_bound (P := P) (w := w) _ (show 0 ≤ h by omega) (show h ≤ (cap : Int) by omega)]
  · simp [Instr.sliceBounds, hy, run_bound (P := P) (w := w) _ h0 h1]
  · have h1' : l ≤ ((h.toNat : Nat) : Int) := by omega
    simp [Instr.sliceBounds, hy, hz, run_bound (P := P) (w := w) _ (show 0 ≤ h by omega) (show h ≤ (cap : Int) by omega), run_bound (P := P) (w := w) _ h0 h1']

theorem repE_mid {m : Mem} {b sz : Nat} {l : List D} {o : Nat} (i n : Nat) (h : RepE m b l o) (hs : ∀ x ∈ l, x.cells.length = sz) (hi : i ≤ l.length) : RepE m b ((l.drop i).take n) (o + i * sz) := repE_take n (repE_drop i h hs hi)

theorem slice_string {o : Oper} {S : Nat → PV} {t : TypeId} {x : Operand} {lo hi : Option Operand} (ho : o.op = .slice t x lo hi none) (hu : P.underlying t = some .string) {s : ByteArray} (hp : evP S x = .d (.val (.string s)))
    {l h : Int} (hl : bnd 0 (lo.map (evP S)) = some l) (hh : bnd s.size (hi.map (evP S)) = some h) (h0 : 0 ≤ l) (h1 : l ≤ h) (h2 : h ≤ (s.size : Int)) : PureRun P o S (.d (.val (.string (s.extract l.toNat h.toNat)))) := by
  refine PureRun.still fun m ρ a w hm hx => ?_
  have e1 := hx x (by simp [ho, Op.operands])
  have e2 : ∀ y, lo = some y → Rep m ρ (evP S y) (a.eval y) := fun y hy => hx y (by simp [ho, hy, Op.operands])
  have e3 : ∀ y, hi = some y → Rep m ρ (evP S y) (a.eval y) := fun y hy => hx y (by simp [ho, hy, Op.operands])
  obtain ⟨dst, op', type, pos, after, guard⟩ := o
  simp only at ho
  subst ho
  rw [hp] at e1
  simp only [Rep, RepD] at e1
  have hb := run_bounds (P := P) (w := w) (isSl := false) hl hh e2 e3 h0 h1 h2 (Nat.le_refl _)
  refine ⟨.string (s.extract l.toNat h.toNat), ?_, by simp [Rep, RepD]⟩
  simp [execOp, Instr.sliceAt, run_underlying hu, Instr.slice, e1, hb]

theorem slice_row {o : Oper} {S : Nat → PV} {t : TypeId} {x : Operand} {lo hi : Option Operand} (ho : o.op = .slice t x lo hi none) {sz by' : Nat} {ag : Bool} (hs : slcA P t = some (sz, by', ag)) {e : List D} (hp : (evP S x).elems = some e)
    {l h : Int} (hl : bnd 0 (lo.map (evP S)) = some l) (hh : bnd e.length (hi.map (evP S)) = some h) (h0 : 0 ≤ l) (h1 : l ≤ h) (h2 : h ≤ (e.length : Int))
    (hz : ∀ x ∈ e, x.cells.length = sz) : PureRun P o S (.d (.slice ((e.drop l.toNat).take (h - l).toNat))) := by
  refine PureRun.still fun m ρ a w hm hx => ?_
  have e1 := hx x (by simp [ho, Op.operands])
  have e2 : ∀ y, lo = some y → Rep m ρ (evP S y) (a.eval y) := fun y hy => hx y (by simp [ho, hy, Op.operands])
  have e3 : ∀ y, hi = some y → Rep m ρ (evP S y) (a.eval y) := fun y hy => hx y (by simp [ho, hy, Op.operands])
  obtain ⟨dst, op', type, pos, after, guard⟩ := o
  simp only at ho
  subst ho
  obtain ⟨ad, c, ev, hc, hrep⟩ := elems_rep hp e1
  obtain ⟨et, inf, hu, ht, hi', _, _⟩ := slcA_spec hs
  have hsz := (tyA_spec ht w).2
  have hb := run_bounds (P := P) (w := w) (isSl := true) (cap := c) hl hh e2 e3 h0 h1 h2 hc
  have hlen : ((e.drop l.toNat).take (h - l).toNat).length = h.toNat - l.toNat := by simp; omega
  refine ⟨.slice (if c = l.toNat then ad else ad.map (·.add (l.toNat * sz))) (h.toNat - l.toNat) (c - l.toNat), ?_, ?_⟩
  · simp [execOp, Instr.sliceAt, run_underlying hu, Instr.slice, ev, hb, hsz]
  · simp only [Rep, RepD, hlen]
    refine ⟨_, _, rfl, by omega, ?_⟩
    rcases hrep with rfl | ⟨b, o', rfl, hE⟩
    · left; simp
    · by_cases hcl : c = l.toNat
      · left
        have : h.toNat - l.toNat = 0 := by omega
        apply List.eq_nil_of_length_eq_zero
        rw [hlen, this]
      · right
        refine ⟨b, o' + l.toNat * sz, ?_, repE_mid _ _ hE hz (by omega)⟩
        simp [hcl, addr_add]

theorem slice_row3 {o : Oper} {S : Nat → PV} {t : TypeId} {x : Operand} {lo : Option Operand} {hi mx : Operand} (ho : o.op = .slice t x lo (some hi) (some mx)) {sz by' : Nat} {ag : Bool} (hs : slcA P t = some (sz, by', ag)) {e : List D} (hp : (evP S x).elems = some e)
    {l h : Int} {k k' : IntKind} (hl : bnd 0 (lo.map (evP S)) = some l) (hh : evP S hi = .d (.val (.int k h))) (hm' : evP S mx = .d (.val (.int k' h))) (h0 : 0 ≤ l) (h1 : l ≤ h) (h2 : h ≤ (e.length : Int))
    (hz : ∀ x ∈ e, x.cells.length = sz) : PureRun P o S (.full ((e.drop l.toNat).take (h - l).toNat)) := by
  refine PureRun.still fun m ρ a w hm hx => ?_
  have e1 := hx x (by simp [ho, Op.operands])
  have e2 : ∀ y, lo = some y → Rep m ρ (evP S y) (a.eval y) := fun y hy => hx y (by simp [ho, hy, Op.operands])
  have e3 := hx hi (by simp [ho, Op.operands])
  have e4 := hx mx (by simp [ho, Op.operands])
  obtain ⟨dst, op', type, pos, after, guard⟩ := o
  simp only at ho
  subst ho
  rw [hh] at e3
  rw [hm'] at e4
  simp only [Rep, RepD] at e3 e4
  obtain ⟨ad, c, ev, hc, hrep⟩ := elems_rep hp e1
  obtain ⟨et, inf, hu, ht, hi', _, _⟩ := slcA_spec hs
  have hsz := (tyA_spec ht w).2
  have hhn : ((h.toNat : Nat) : Int) = h := Int.toNat_of_nonneg (by omega)
  have b1 := run_bound (P := P) (w := w) (k := k') .slice3Acap (show 0 ≤ h by omega) (show h ≤ (c : Int) by omega)
  have b2 := run_bound (P := P) (w := w) (k := k) (y := h.toNat) .slice3B (show 0 ≤ h by omega) (by omega)
  have hb : (Instr.sliceBounds true e.length c (lo.map a.eval) (some (a.eval hi)) (some (a.eval mx))).run P w = .ok (l.toNat, h.toNat, h.toNat) w := by
    rcases bnd_rep hl e2 with ⟨rfl, rfl⟩ | ⟨y, ky, rfl, hy⟩
    · simp [Instr.sliceBounds, e3, e4, b1, b2]
    · have b3 := run_bound (P := P) (w := w) (k := ky) (y := h.toNat) .slice3C h0 (by omega)
      simp [Instr.sliceBounds, e3, e4, hy, b1, b2, b3]
  have hlen : ((e.drop l.toNat).take (h - l).toNat).length = h.toNat - l.toNat := by simp; omega
  refine ⟨.slice (if h.toNat = l.toNat then ad else ad.map (·.add (l.toNat * sz))) (h.toNat - l.toNat) (h.toNat - l.toNat), ?_, ?_⟩
  · simp [execOp, Instr.sliceAt, run_underlying hu, Instr.slice, ev, hb, hsz]
  · simp only [Rep, hlen]
    refine ⟨_, rfl, ?_⟩
    rcases hrep with rfl | ⟨b, o', rfl, hE⟩
    · left; simp
    · by_cases hcl : h.toNat = l.toNat
      · left
        have : h.toNat - l.toNat = 0 := by omega
        apply List.eq_nil_of_length_eq_zero
        rw [hlen, this]
      · right
        refine ⟨b, o' + l.toNat * sz, ?_, repE_mid _ _ hE hz (by omega)⟩
        simp [hcl, addr_add]

theorem slice_array {o : Oper} {S : Nat → PV} {t : TypeId} {x : Operand} {lo hi : Option Operand} (ho : o.op = .slice t x lo hi none) {n : Nat} {ag : Bool} (ha : arrA P t = some (n, 1, ag)) {c : List D} (hp : evP S x = .d (.cptr c))
    {l h : Int} (hl : bnd 0 (lo.map (evP S)) = some l) (hh : bnd n (hi.map (evP S)) = some h) (h0 : 0 ≤ l) (h1 : l ≤ h) (h2 : h ≤ (n : Int)) (h3 : n ≤ c.length) (hz : ∀ x ∈ c, x.flat = true) :
    PureRun P o S (if hi.isSome then .d (.slice ((c.drop l.toNat).take (h - l).toNat)) else .full ((c.drop l.toNat).take (h - l).toNat)) := by
  refine PureRun.still fun m ρ a w hm hx => ?_
  have e1 := hx x (by simp [ho, Op.operands])
  have e2 : ∀ y, lo = some y → Rep m ρ (evP S y) (a.eval y) := fun y hy => hx y (by simp [ho, hy, Op.operands])
  have e3 : ∀ y, hi = some y → Rep m ρ (evP S y) (a.eval y) := fun y hy => hx y (by simp [ho, hy, Op.operands])
  obtain ⟨dst, op', type, pos, after, guard⟩ := o
  simp only at ho
  subst ho
  rw [hp] at e1
  simp only [Rep, RepD] at e1
  obtain ⟨b, o', ev, hc⟩ := e1
  obtain ⟨et, hu, ht⟩ := arrA_spec ha
  have hsz := (tyA_spec ht w).2
  have hb := run_bounds (P := P) (w := w) (isSl := false) hl hh e2 e3 h0 h1 h2 (Nat.le_refl _)
  have hlen : ((c.drop l.toNat).take (h - l).toNat).length = h.toNat - l.toNat := by simp; omega
  have hE : RepE m b ((c.drop l.toNat).take (h - l).toNat) (o' + l.toNat) :=
    (repE_flat fun y hy => hz y (List.mem_of_mem_drop (List.mem_of_mem_take hy))).2 (repC_take _ (repC_drop _ hc))
  refine ⟨.slice (some (if n = l.toNat then ⟨b, o', none⟩ else (⟨b, o', none⟩ : Addr).add l.toNat)) (h.toNat - l.toNat) (n - l.toNat), ?_, ?_⟩
  · simp [execOp, Instr.sliceAt, run_underlying hu, ev, Instr.sureAddr, hb, hsz]
  · have hemp : n = l.toNat → ((c.drop l.toNat).take (h - l).toNat) = [] := by
      intro e
      apply List.eq_nil_of_length_eq_zero
      rw [hlen]
      omega
    have hbase : ((c.drop l.toNat).take (h - l).toNat) = [] ∨ ∃ b_1 o_1, some (if n = l.toNat then (⟨b, o', none⟩ : Addr) else (⟨b, o', none⟩ : Addr).add l.toNat) = some ⟨b_1, o_1, none⟩ ∧ RepE m b_1 ((c.drop l.toNat).take (h - l).toNat) o_1 := by
      by_cases e : n = l.toNat
      · exact .inl (hemp e)
      · exact .inr ⟨b, o' + l.toNat, by simp [e, addr_add], hE⟩
    split
    · simp only [Rep, RepD, hlen]
      exact ⟨_, _, rfl, by omega, hbase⟩
    · rename_i hnone
      have hhn : h = n := by
        cases hi with
        | none => simp [bnd] at hh; exact hh.symm
        | some y => simp at hnone
      simp only [Rep, hlen]
      refine ⟨_, ?_, hbase⟩
      rw [hhn]
      rfl
end Go.Proofs.Ytonlehebfeilmaa.K
