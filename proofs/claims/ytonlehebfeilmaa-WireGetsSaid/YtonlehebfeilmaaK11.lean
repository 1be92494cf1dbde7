/- Operations on owned blocks: variables read, written, made; rows made, and appended to. -/
import Derived.Test.YtonlehebfeilmaaK10
import Derived.Laws.AppendOwn
namespace Go.Proofs.Ytonlehebfeilmaa.K
open Go Go.RowKit

variable {P : Program}

/-! ### Memory with a block more -/

def Mem.with (m : Mem) (b : Nat) (vs : List Value) : Mem := fun b' o => if b' = b then vs[o]? else m b' o

theorem Mem.le_with {m : Mem} {b : Nat} {vs : List Value} (h : ∀ o, m b o = none) : m.le (m.with b vs) := by
  intro b' o v e
  unfold Mem.with
  split
  · rename_i hb; subst hb; rw [h o] at e; cases e
  · exact e

theorem cell_of_block {w : World} {b : Nat} {vs : List Value} {t : TypeId} {fr : Nat × Nat} (h : w.heap[b]? = some (.cells ⟨vs⟩ t fr)) (o : Nat) : w.cell? ⟨b, o, none⟩ = vs[o]? := by
  simp [World.cell?, h]

theorem cell_same {w w' : World} {b : Nat} (h : w'.heap[b]? = w.heap[b]?) (o : Nat) : w'.cell? ⟨b, o, none⟩ = w.cell? ⟨b, o, none⟩ := by simp [World.cell?, h]

theorem MemOK.step {m : Mem} {w w' : World} (h : MemOK m w) (hs : ∀ b, (∃ o v, m b o = some v) → w'.heap[b]? = w.heap[b]?) : MemOK m w' := by
  intro b o v e
  obtain ⟨h1, h2⟩ := h b o v e
  exact ⟨by rw [cell_same (hs b ⟨o, v, e⟩)]; exact h1, h2⟩

theorem MemOK.with {m : Mem} {w w' : World} (h : MemOK m w) (hs : ∀ b, (∃ o v, m b o = some v) → w'.heap[b]? = w.heap[b]?) {b : Nat} {vs : List Value} (hc : ∀ o v, vs[o]? = some v → w'.cell? ⟨b, o, none⟩ = some v) (h1 : ∀ v ∈ vs, v.oneCell' = true) :
    MemOK (m.with b vs) w' := by
  intro b' o v e
  unfold Mem.with at e
  split at e
  · rename_i hb; subst hb
    exact ⟨hc o v e, h1 v (List.mem_of_getElem? e)⟩
  · exact h.step hs b' o v e

theorem MemOK.alloc {m : Mem} {w : World} (h : MemOK m w) (o : Obj) : MemOK m (w.alloc o) :=
  h.step fun _ ⟨_, _, e⟩ => heap_alloc_old w o (h.lt e)

theorem memNone {m : Mem} {w : World} (h : MemOK m w) (o : Nat) : m w.heap.size o = none := by
  cases e : m w.heap.size o with
  | none => rfl
  | some v => exact absurd (h.lt e) (Nat.lt_irrefl _)

theorem Ext.alloc {m m' : Mem} {w : World} (hm : m.le m') (o : Obj) (hn : ∀ b o v, m' b o = some v → m b o = some v ∨ w.heap.size ≤ b) (FB : Nat → Prop) : Ext FB m w m' (w.alloc o) :=
  ⟨hm, by simp, fun b hb _ => heap_alloc_old w o hb, rfl, rfl, rfl, fun b o v e => (hn b o v e).imp id .inr⟩

theorem repE_of_vals {m : Mem} {b : Nat} : ∀ {l : List D} {o : Nat} {vs : List Value}, RepL m (l.flatMap D.cells) vs → (∀ j v, vs[j]? = some v → m b (o + j) = some v) → RepE m b l o
  | [], _, _, _, _ => by simp [RepE]
  | x :: r, o, vs, h, hc => by
    rw [repE_cons]
    simp only [List.flatMap_cons] at h
    have hl := repL_len h
    simp only [List.length_append] at hl
    have h1 : RepL m x.cells (vs.take x.cells.length) := by
      have := repL_take x.cells.length h
      simpa using this
    have h2 : RepL m (r.flatMap D.cells) (vs.drop x.cells.length) := by
      have := repL_drop x.cells.length h
      simpa using this
    have toC : ∀ {l : List D} {o : Nat} {us : List Value}, RepL m l us → (∀ j v, us[j]? = some v → m b (o + j) = some v) → RepC m b l o := by
      intro l
      induction l with
      | nil => intro o us _ _; simp [RepC]
      | cons y l ih =>
        intro o us hu hcu
        simp only [RepL] at hu
        obtain ⟨v, vr, rfl, e1, e2⟩ := hu
        simp only [RepC]
        refine ⟨⟨v, by simpa using hcu 0 v rfl, e1⟩, ih e2 fun j u hj => ?_⟩
        have := hcu (j + 1) u (by simpa using hj)
        rwa [show o + (j + 1) = o + 1 + j from by omega] at this
    refine ⟨toC h1 fun j v hj => hc j v (by
      rw [List.getElem?_take] at hj
      split at hj
      · exact hj
      · cases hj), repE_of_vals h2 fun j v hj => ?_⟩
    rw [List.getElem?_drop] at hj
    have := hc _ v hj
    rwa [show o + (x.cells.length + j) = o + x.cells.length + j from by omega] at this

theorem repC_of_vals {m : Mem} {b : Nat} : ∀ {l : List D} {o : Nat} {us : List Value}, RepL m l us → (∀ j v, us[j]? = some v → m b (o + j) = some v) → RepC m b l o
  | [], _, _, _, _ => by simp [RepC]
  | y :: l, o, us, hu, hcu => by
    simp only [RepL] at hu
    obtain ⟨v, vr, rfl, e1, e2⟩ := hu
    simp only [RepC]
    refine ⟨⟨v, by simpa using hcu 0 v rfl, e1⟩, repC_of_vals e2 fun j u hj => ?_⟩
    have := hcu (j + 1) u (by simpa using hj)
    rwa [show o + (j + 1) = o + 1 + j from by omega] at this

/-- A new block that stays as it is. -/
theorem mem_alloc {m : Mem} {w : World} (hm : MemOK m w) (vs : List Value) (t : TypeId) (h1 : ∀ v ∈ vs, v.oneCell' = true) (FB : Nat → Prop) :
    m.le (m.with w.heap.size vs) ∧ MemOK (m.with w.heap.size vs) (w.alloc (.cells ⟨vs⟩ t)) ∧ Ext FB m w (m.with w.heap.size vs) (w.alloc (.cells ⟨vs⟩ t)) ∧ ∀ j v, vs[j]? = some v → (m.with w.heap.size vs) w.heap.size (0 + j) = some v := by
  have hle := Mem.le_with (vs := vs) (memNone hm)
  refine ⟨hle, hm.with (fun b ⟨_, _, e⟩ => heap_alloc_old w _ (hm.lt e)) (fun o v e => ?_) h1, Ext.alloc hle _ (fun b o v e => ?_) FB, fun j v e => ?_⟩
  · rw [cell_of_block (heap_alloc_new w _)]; exact e
  · unfold Mem.with at e
    split at e
    · rename_i hb; exact .inr (by omega)
    · exact .inl e
  · simp [Mem.with, e]

/-! ### New rows -/

/-- A row's element type: its cells, its bytes; and that it has a zero value of so many cells. -/
def rowA (P : Program) (t : TypeId) : Option (Nat × Nat) :=
  match P.underlying t with
  | some (.slice e) => match P.info? e with
    | some i => match i.zero with
      | some z => if z.cells.size = i.size ∧ 0 < i.size then some (i.size, i.bytes) else none
      | none => none
    | none => none
  | _ => none

theorem rowA_spec {t : TypeId} {sz by' : Nat} (h : rowA P t = some (sz, by')) : ∃ e i z, P.underlying t = some (.slice e) ∧ P.info? e = some i ∧ i.zero = some z ∧ z.cells.size = sz ∧ 0 < sz ∧ i.size = sz ∧ i.bytes = by' := by
  unfold rowA at h
  cases hu : P.underlying t with
  | none => simp [hu] at h
  | some d =>
    cases d with
    | slice e =>
      simp only [hu] at h
      cases hi : P.info? e with
      | none => simp [hi] at h
      | some i =>
        simp only [hi] at h
        cases hz : i.zero with
        | none => simp [hz] at h
        | some z =>
          simp only [hz] at h
          split at h
          · rename_i hc
            simp only [Option.some.injEq, Prod.mk.injEq] at h
            obtain ⟨h1, h2⟩ := h
            exact ⟨e, i, z, rfl, hi, hz, by omega, by omega, h1, h2⟩
          · cases h
    | _ => simp [hu] at h

theorem repL_solid {m : Mem} {ρ : Ren} {p : PV} {x : D} {v : Value} (hx : p.toD = some x) (hs : p.solid = true) (h : Rep m ρ p v) : RepL m x.cells v.cells.toList ∧ ∀ u ∈ v.cells.toList, u.oneCell' = true := by
  have h1 := (solid_cells hs h).2
  have h2 := Rep.toD p x v hx h
  refine ⟨?_, h1⟩
  cases x with
  | agg l =>
    simp only [RepD] at h2
    obtain ⟨vs, rfl, h3, _⟩ := h2
    simpa [D.cells, Value.cells] using h3
  | val z =>
    simp only [RepD] at h2
    subst h2
    have hz : v.oneCell' = true := by
      cases p with
      | d y => simp only [PV.toD, Option.some.injEq] at hx; subst hx; simpa [PV.solid] using hs
      | full l => simp [PV.toD] at hx
      | own id l => simp [PV.toD] at hx
      | vptr => simp [PV.toD] at hx
      | clo f l => simp [PV.toD] at hx
      | agg l => simp [PV.toD] at hx
      | tuple l => simp [PV.solid] at hs
      | cond => simp [PV.solid] at hs
      | junk => simp [PV.solid] at hs
    cases v <;> simp_all [Value.oneCell', Value.cells, D.cells, RepL, RepD]
  | slice l => simp only [RepD] at h2; obtain ⟨a, c, rfl, _⟩ := id h2; simp only [D.cells, Value.cells, RepL, RepD]; exact ⟨_, [], rfl, h2, rfl⟩
  | cptr l => simp only [RepD] at h2; obtain ⟨a, c, rfl, _⟩ := id h2; simp only [D.cells, Value.cells, RepL, RepD]; exact ⟨_, [], rfl, h2, rfl⟩
  | clo f l => simp only [RepD] at h2; obtain ⟨a, rfl, _⟩ := id h2; simp only [D.cells, Value.cells, RepL, RepD]; exact ⟨_, [], rfl, h2, rfl⟩
  | iface f l => simp only [RepD] at h2; obtain ⟨a, rfl, _⟩ := id h2; simp only [D.cells, Value.cells, RepL, RepD]; exact ⟨_, [], rfl, h2, rfl⟩
  | tuple l =>
    cases p with
    | d y => simp only [PV.toD, Option.some.injEq] at hx; subst hx; simp [PV.solid] at hs
    | tuple l => simp [PV.solid] at hs
    | full l => simp [PV.toD] at hx
    | own id l => simp [PV.toD] at hx
    | vptr => simp [PV.toD] at hx
    | clo f l => simp [PV.toD] at hx
    | agg l => simp [PV.toD] at hx
    | cond => simp [PV.solid] at hs
    | junk => simp [PV.solid] at hs

theorem fill_row {m : Mem} {ρ : Ren} {S : Nat → PV} {a : Act} {sz : Nat} : ∀ (parts : List (Nat × Operand)) (xs : List D) (k : Nat) (pre : List Value) (z : List Value), pre.length = k * sz → z.length = parts.length * sz →
    parts.map (·.1) = List.range' k parts.length → PV.toDs (parts.map fun x => evP S x.2) = some xs → (∀ x ∈ parts, (evP S x.2).solid = true) → (∀ x ∈ xs, x.cells.length = sz) → (∀ x ∈ parts, Rep m ρ (evP S x.2) (a.eval x.2)) →
      ∃ us, Instr.fill (fun i => some (i * sz, sz)) ⟨pre ++ z⟩ (parts.map fun x => (x.1, a.eval x.2)) = some ⟨pre ++ us⟩ ∧ RepL m (xs.flatMap D.cells) us ∧ ∀ u ∈ us, u.oneCell' = true
  | [], xs, k, pre, z, _, hz, _, hx, _, _, _ => by
    simp only [List.map_nil, PV.toDs, Option.some.injEq] at hx
    subst hx
    have : z = [] := List.eq_nil_of_length_eq_zero (by simpa using hz)
    subst this
    exact ⟨[], rfl, by simp [RepL], by simp⟩
  | (i, x) :: r, xs, k, pre, z, hp, hz, hi, hx, hs, hl, hr => by
    simp only [List.map_cons, PV.toDs] at hx
    cases hd : PV.toD (evP S x) with
    | none => simp [hd] at hx
    | some y =>
      simp only [hd, Option.map_eq_some_iff] at hx
      obtain ⟨ys, hys, rfl⟩ := hx
      simp only [List.map_cons, List.length_cons, List.range'_succ, List.cons.injEq] at hi
      obtain ⟨rfl, hi⟩ := hi
      obtain ⟨e1, e2⟩ := repL_solid hd (hs (i, x) (List.mem_cons_self ..)) (hr (i, x) (List.mem_cons_self ..))
      dsimp only at e1 e2
      have hlen := repL_len e1
      rw [hl y (List.mem_cons_self ..), Array.length_toList] at hlen
      simp only [List.length_cons, Nat.succ_mul] at hz
      simp only [List.map_cons]
      rw [fill_one (off := i * sz) (size := sz) rfl hlen (by simp; omega)]
      have hspl : spl (pre ++ z) (i * sz) (a.eval x).cells.toList = (pre ++ (a.eval x).cells.toList) ++ z.drop sz := by
        unfold spl
        have hlen' : (a.eval x).cells.toList.length = sz := by rw [Array.length_toList]; exact hlen
        rw [← hp, List.take_left, hlen', List.drop_append]
        simp
      rw [hspl]
      obtain ⟨us, f1, f2, f3⟩ := fill_row r ys (i + 1) (pre ++ (a.eval x).cells.toList) (z.drop sz) (by simp [hp, hlen, Nat.succ_mul]) (by simp; omega) hi hys (fun w hw => hs w (List.mem_cons_of_mem _ hw)) (fun w hw => hl w (List.mem_cons_of_mem _ hw)) (fun w hw => hr w (List.mem_cons_of_mem _ hw))
      refine ⟨(a.eval x).cells.toList ++ us, by rw [f1, List.append_assoc], ?_, ?_⟩
      · simp only [List.flatMap_cons]; exact repL_append e1 f2
      · intro u hu
        rcases List.mem_append.1 hu with h | h
        · exact e2 u h
        · exact f3 u h

theorem buildSlice_sound {o : Oper} {S : Nat → PV} {t : TypeId} {n : Nat} {parts : Array (Nat × Operand)} (ho : o.op = .buildSlice t n parts) {sz by' : Nat} (ht : rowA P t = some (sz, by')) (hn : parts.toList.map (·.1) = List.range n) (hsmall : n * sz ≤ 2 ^ 24)
    {xs : List D} (hx : PV.toDs (parts.toList.map fun x => evP S x.2) = some xs) (hs : ∀ x ∈ parts.toList, (evP S x.2).solid = true) (hl : ∀ x ∈ xs, x.cells.length = sz) : PureRun P o S (.full xs) := by
  intro m ρ a w hm hx'
  have h1 : ∀ x ∈ parts.toList, Rep m ρ (evP S x.2) (a.eval x.2) := fun x hxx => hx' x.2 (by
    simp only [ho, Op.operands]
    rw [Array.mem_def]
    exact List.mem_map.2 ⟨x, hxx, rfl⟩)
  obtain ⟨dst, op', type, pos, after, guard⟩ := o
  simp only at ho
  subst ho
  obtain ⟨e, i, z, hu, hi, hz, hzs, h0, hsz, _⟩ := rowA_spec ht
  have hlen : parts.toList.length = n := by have := congrArg List.length hn; simpa using this
  have hxl : xs.length = n := by
    have : ∀ (l : List PV) (ys : List D), PV.toDs l = some ys → ys.length = l.length := by
      intro l
      induction l with
      | nil => intro ys h; simp only [PV.toDs, Option.some.injEq] at h; subst h; rfl
      | cons p r ih =>
        intro ys h
        simp only [PV.toDs] at h
        cases hp : PV.toD p with
        | none => simp [hp] at h
        | some y =>
          simp only [hp, Option.map_eq_some_iff] at h
          obtain ⟨zr, h1, rfl⟩ := h
          simp [ih zr h1]
    rw [this _ _ hx]; simpa using hlen
  have hzl : ((Array.range (n * sz)).map (fun k => (if n * sz = 0 then #[] else z.cells)[k % (if n * sz = 0 then #[] else z.cells).size]!)).toList.length = parts.toList.length * sz := by simp [← hlen]
  obtain ⟨us, f1, f2, f3⟩ := fill_row (m := m) (ρ := ρ) (S := S) (a := a) (sz := sz) parts.toList xs 0 [] _ (by simp) hzl (by rw [hn, hlen, List.range_eq_range']) hx hs hl h1
  simp only [List.nil_append] at f1
  obtain ⟨g1, g2, g3, g4⟩ := mem_alloc hm us e f3 (fun _ => False)
  refine ⟨.slice (some ⟨w.heap.size, 0, none⟩) n n, m.with w.heap.size us, w.alloc (.cells ⟨us⟩ e), ?_, g2, g3, ?_⟩
  · have hb : ¬ (n * sz > 2 ^ 24) := by omega
    simp only [execOp, Instr.buildSlice, Sem.run_bind, run_underlying hu, Result.andThen_ok, sizeOf, typeInfo, run_program, hi, Sem.run_pure, hsz, if_neg hb, zeroValue]
    have f1' : Instr.fill (fun i => some (i * sz, sz)) ((Array.range (n * sz)).map (fun k => (if n * sz = 0 then #[] else z.cells)[k % (if n * sz = 0 then #[] else z.cells).size]!)) (parts.toList.map fun x => (x.1, a.eval x.2)) = some ⟨us⟩ := by
      rw [← f1]
    by_cases h00 : n * sz = 0
    · have hn0 : n = 0 := (Nat.mul_eq_zero.1 h00).resolve_right (by omega)
      have hp0 : parts.toList = [] := List.eq_nil_of_length_eq_zero (by omega)
      simp only [hp0, List.map_nil, Instr.fill, Option.some.injEq] at f1'
      have hu0 : us = [] := by
        have := congrArg Array.size f1'
        simp [h00] at this
        exact List.eq_nil_of_length_eq_zero this.symm
      subst hu0
      have e0 : (Array.range 0).map (fun _ => (default : Value)) = ⟨[]⟩ := by apply Array.ext'; simp
      simp [h00, hp0, Instr.fill, newRow, e0]
    · simp only [h00, if_false] at f1' ⊢
      simp [f1', newRow, hi, hz]
  · simp only [Rep, hxl]
    refine ⟨_, rfl, .inr ⟨w.heap.size, 0, rfl, repE_of_vals (f2.mono g1) g4⟩⟩
end Go.Proofs.Ytonlehebfeilmaa.K
