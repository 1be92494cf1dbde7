/- Operations on owned blocks. -/
import Derived.Test.YtonlehebfeilmaaK11
namespace Go.Proofs.Ytonlehebfeilmaa.K
open Go Go.RowKit

variable {P : Program}

/-- A variable of its own, read. -/
def loadV (ty : Option (Bool × Nat)) (l : List PV) (off : Nat) : PV × Prop :=
  match ty with
  | some (ag, n) => (partP ag l off n, off + n ≤ l.length ∧ 0 < n)
  | none => (.junk, False)

theorem run_loadVar_own {m : Mem} {ρ : Ren} {w : World} {b : Nat} {vs : List Value} {tb : TypeId} {fr : Nat × Nat} (hb : w.heap[b]? = some (.cells ⟨vs⟩ tb fr)) {l : List PV} (hl : RepP m ρ l vs) (h1 : ∀ u ∈ vs, u.oneCell' = true) {t : TypeId} {ag : Bool} {n off : Nat}
    (ht : tyA P t = some (ag, n)) (hn : off + n ≤ l.length) (hp : 0 < n) : ∃ u, (loadVar t ⟨b, off, none⟩).run P w = .ok u w ∧ Rep m ρ (partP ag l off n) u := by
  obtain ⟨e1, e2⟩ := tyA_spec ht w
  have hlen := repP_len hl
  cases ag with
  | true =>
    refine ⟨.agg ⟨(vs.drop off).take n⟩, ?_, ?_⟩
    · have hc : ∀ j v, ((vs.drop off).take n)[j]? = some v → w.cell? ((⟨b, off, none⟩ : Addr).add j) = some v := by
        intro j v hj
        rw [addr_add, cell_of_block hb]
        rw [List.getElem?_take] at hj
        split at hj
        · rwa [List.getElem?_drop] at hj
        · cases hj
      have hk : ((vs.drop off).take n).length = n := by simp; omega
      have := run_loadCells_list (P := P) w ⟨b, off, none⟩ _ hc
      rw [hk] at this
      unfold loadVar
      simp [e1, e2, this]
    · simp only [partP, if_true, Rep]
      exact ⟨_, rfl, repP_take n (repP_drop off hl), fun u hu => h1 u (List.mem_of_mem_drop (List.mem_of_mem_take hu))⟩
  | false =>
    obtain ⟨v, h3, h4⟩ := repP_get hl (i := off) (by omega)
    refine ⟨v, ?_, by simpa [partP] using h4⟩
    unfold loadVar
    simp [e1, cell_of_block hb, h3]

theorem loadV_sem {o : Oper} {s : St} {t : TypeId} {x : Operand} {ix off : Nat} {l : List PV} (ho : o.op = .load t x) (hp : evP s.S x = .vptr ix off) (hH : s.H ix = some (.var l)) (hn : ∀ i, s.nx ≤ i → s.H i = none) (h : (loadV (tyA P t) l off).2) :
    OpSem P o s (loadV (tyA P t) l off).1 s.H s.nx [ix] [] := by
  have hid : ix < s.nx := by
    rcases Nat.lt_or_ge ix s.nx with h | h
    · exact h
    · rw [hn ix h] at hH; cases hH
  refine ⟨Nat.le_refl _, fun _ _ _ => rfl, hn, by simp, by simpa using hid, ?_⟩
  intro m ρ a w K Q V _ hx hK
  have h1 := hx x (by simp [ho, Op.operands])
  rw [hp] at h1
  simp only [Rep] at h1
  obtain ⟨b, c, hr, ev⟩ := h1
  obtain ⟨b', c', vs, tb, hr', hb, hl, hone, _⟩ := V.entry ix _ (by simp) hH
  rw [hr] at hr'; cases hr'
  obtain ⟨dst, op', type, pos, after, guard⟩ := o
  simp only at ho
  subst ho
  unfold loadV at h hK
  cases ht : tyA P t with
  | none => simp [ht] at h
  | some an =>
    obtain ⟨ag, n⟩ := an
    simp only [ht] at h hK
    obtain ⟨u, hu, hrep⟩ := run_loadVar_own (P := P) hb hl hone ht h.1 h.2
    unfold Oper.wp
    have : (execOp a.eval ⟨dst, .load t x, type, pos, after, guard⟩).run P w = .ok (.value u) w := by simp [execOp, Instr.loadAt, ev, Instr.sureAddr, hu]
    rw [this, Oper.upon_value]
    exact hK u m ρ w (Done.same V) hrep

/-- A variable of its own, written. -/
theorem storeV_sem {o : Oper} {s : St} {t : TypeId} {x y : Operand} {ix off : Nat} {l : List PV} (ho : o.op = .store t x y) (hp : evP s.S x = .vptr ix off) (hH : s.H ix = some (.var l)) (hn : ∀ i, s.nx ≤ i → s.H i = none)
    {ag : Bool} {n : Nat} (ht : tyA P t = some (ag, n)) (hs : (evP s.S y).solid = true) (hl : (evP s.S y).cellsP.length = n) (hf : off + n ≤ l.length) :
    OpSem P o s .junk (fun i => if i = ix then some (.var (spl l off (evP s.S y).cellsP)) else s.H i) s.nx [ix] [ix] := by
  have hid : ix < s.nx := by
    rcases Nat.lt_or_ge ix s.nx with h | h
    · exact h
    · rw [hn ix h] at hH; cases hH
  refine ⟨Nat.le_refl _, fun i hi _ => by simp at hi; simp [hi], fun i hi => by
    have : i ≠ ix := by omega
    simp [this, hn i hi], by simp, by simpa using hid, ?_⟩
  intro m ρ a w K Q V _ hx hK
  have h1 := hx x (by simp [ho, Op.operands])
  have h2 := hx y (by simp [ho, Op.operands])
  rw [hp] at h1
  simp only [Rep] at h1
  obtain ⟨b, c, hr, ev⟩ := h1
  obtain ⟨b', c', vs, tb, hr', hb, hrl, hone, hno⟩ := V.entry ix _ (by simp) hH
  rw [hr] at hr'; cases hr'
  obtain ⟨c1, c2⟩ := solid_cells hs h2
  have hcl := repP_len c1
  have hvl := repP_len hrl
  rw [Array.length_toList] at hcl
  obtain ⟨dst, op', type, pos, after, guard⟩ := o
  simp only at ho
  subst ho
  have hsz := (tyA_spec ht w).2
  have hst := run_storeCells_at P b off tb (a.eval y).cells.toList 0 ⟨vs⟩ w hb (by simp; omega) c2
  simp only [Nat.add_zero] at hst
  let w' := w.setRow b (vs.take off ++ (a.eval y).cells.toList ++ vs.drop (off + (a.eval y).cells.toList.length)).toArray
  have hrun : (execOp a.eval ⟨dst, .store t x y, type, pos, after, guard⟩).run P w = .ok .skip w' := by
    have hne : ¬ ((a.eval y).cells.size ≠ n) := by omega
    simp only [execOp, Instr.storeAt, ev, Instr.sureAddr, storeVar, Sem.run_bind, Sem.run_pure, Result.andThen_ok, hsz, if_neg hne, hst]
    rfl
  unfold Oper.wp
  rw [hrun, Oper.upon_skip]
  have hother : ∀ k, k ≠ b → w'.heap[k]? = w.heap[k]? := fun k hk => setRow_other w b k _ hk
  have hblk : w'.heap[b]? = some (.cells ⟨spl vs off (a.eval y).cells.toList⟩ tb (0, 0)) := by
    have := setRow_heap w b ⟨vs⟩ (vs.take off ++ (a.eval y).cells.toList ++ vs.drop (off + (a.eval y).cells.toList.length)).toArray tb (0, 0) hb
    simpa [spl, w', List.append_assoc] using this
  have hsize : w'.heap.size = w.heap.size := by simp [w', World.setRow]
  have hmem : MemOK m w' := V.mem.step fun k ⟨o', v, e⟩ => hother k (fun hk => by subst hk; rw [hno o'] at e; cases e)
  refine hK undef m ρ w' ⟨⟨Mem.le_refl _, by omega, fun k hk hnb => hother k (fun e => hnb (by subst e; exact ⟨ix, c, by simp, by rw [hH]; simp, hr⟩)), rfl, rfl, rfl, fun _ _ _ e => .inl e⟩, Ren.le_refl _, fun i => .inl rfl, ⟨hmem, ?_, ?_⟩, ?_⟩ (by simp [Rep])
  · intro i ob hi hHi
    have hi' : i = ix := by simpa using hi.elim id (by omega)
    subst hi'
    simp only [if_true, Option.some.injEq] at hHi
    subst hHi
    refine ⟨b, c, _, tb, hr, hblk, repP_spl off hrl c1, ?_, hno⟩
    intro u hu
    unfold spl at hu
    simp only [List.mem_append] at hu
    rcases hu with hu | hu | hu
    · exact hone u (List.mem_of_mem_take hu)
    · exact c2 u hu
    · exact hone u (List.mem_of_mem_drop hu)
  · intro i j b1 c1' c2' hi hj _ _ _ _
    have hi' : i = ix := by simpa using hi.elim id (by omega)
    have hj' : j = ix := by simpa using hj.elim id (by omega)
    rw [hi', hj']
  · rintro k ⟨i, c1', hi, _, hri⟩
    have hi' : i = ix := by simpa using hi.elim id (by omega)
    subst hi'
    exact .inl ⟨i, c1', by simp, by rw [hH]; simp, hri⟩

/-- A new variable of its own. -/
theorem newV {s : St} {ps : List PV} {m : Mem} {ρ : Ren} {w : World} {vs : List Value} (T : Nat → Prop) (V : ValidOn T m ρ w s.H) (hf : ∀ i, s.nx ≤ i → i < s.nx + 1 → ρ i = none)
    (hv : RepP m ρ ps vs) (h1 : ∀ u ∈ vs, u.oneCell' = true) (t : TypeId) :
    Done T s.nx (s.nx + 1) m ρ w s.H m (fun i => if i = s.nx then some (w.heap.size, 0) else ρ i) (w.alloc (.cells ⟨vs⟩ t)) (fun i => if i = s.nx then some (.var ps) else s.H i) := by
  have hle : ρ.le (fun i => if i = s.nx then some (w.heap.size, 0) else ρ i) := by
    intro i x e
    have : i ≠ s.nx := by intro h; subst h; rw [hf _ (Nat.le_refl _) (by omega)] at e; cases e
    simp [this, e]
  refine ⟨Ext.alloc (Mem.le_refl _) _ (fun _ _ _ e => .inl e) _, hle, fun i => ?_, ⟨V.mem.alloc _, ?_, ?_⟩, ?_⟩
  · by_cases h : i = s.nx
    · exact .inr ⟨by omega, by omega⟩
    · simp [h]
  · intro i o hi hH
    by_cases h : i = s.nx
    · subst h
      simp only [if_true, Option.some.injEq] at hH
      subst hH
      exact ⟨w.heap.size, 0, vs, t, by simp, heap_alloc_new w _, hv.mono (Mem.le_refl _) hle, h1, memNone V.mem⟩
    · simp only [h, if_false] at hH
      have hE := V.entry i o (hi.elim id (by omega)) hH
      refine hE.move (Mem.le_refl _) hle (by simp [h]) (fun b c hr => heap_alloc_old w _ (hE.ren hr)) (fun _ _ _ _ _ e => e)
  · intro i j b c c' hi hj hHi hHj hri hrj
    have old : ∀ k, (T k ∨ (s.nx ≤ k ∧ k < s.nx + 1)) → k ≠ s.nx → (if k = s.nx then some (HO.var ps) else s.H k) ≠ none → ∀ b c, (if k = s.nx then some (w.heap.size, 0) else ρ k) = some (b, c) → T k ∧ s.H k ≠ none ∧ ρ k = some (b, c) ∧ b < w.heap.size := by
      intro k hk hne hl b c hr
      simp only [hne, if_false] at hl hr
      have hTk : T k := hk.elim id (by omega)
      refine ⟨hTk, hl, hr, ?_⟩
      cases e : s.H k with
      | none => exact absurd e hl
      | some o => exact (V.entry k o hTk e).ren hr
    by_cases h : i = s.nx <;> by_cases h' : j = s.nx
    · rw [h, h']
    · subst h
      have := old j hj h' hHj b c' hrj
      simp at hri
      omega
    · subst h'
      have := old i hi h hHi b c hri
      simp at hrj
      omega
    · have e1 := old i hi h hHi b c hri
      have e2 := old j hj h' hHj b c' hrj
      exact V.apart i j b c c' e1.1 e2.1 e1.2.1 e2.2.1 e1.2.2.1 e2.2.2.1
  · rintro b ⟨i, c, hi, hl, hr⟩
    by_cases h : i = s.nx
    · subst h
      simp at hr
      exact .inr (by omega)
    · simp only [h, if_false] at hl hr
      exact .inl ⟨i, c, hi.elim id (by omega), hl, hr⟩

theorem newV_facts {s : St} {ps : List PV} (hn : ∀ i, s.nx ≤ i → s.H i = none) : (∀ i, i ∉ ([] : List Nat) → i < s.nx → (fun i => if i = s.nx then some (HO.var ps) else s.H i) i = s.H i) ∧ ∀ i, s.nx + 1 ≤ i → (fun i => if i = s.nx then some (HO.var ps) else s.H i) i = none := by
  refine ⟨fun i _ hi => ?_, fun i hi => ?_⟩
  · have : i ≠ s.nx := by omega
    simp [this]
  · have : i ≠ s.nx := by omega
    simp [this, hn i (by omega)]

def zeroA (P : Program) (t : TypeId) : Option (List Value) := ((P.info? t).bind (·.zero)).map fun z => z.cells.toList

theorem allocV_sem {o : Oper} {s : St} {t : TypeId} (ho : o.op = .alloc t) (hn : ∀ i, s.nx ≤ i → s.H i = none) {z : List Value} (hz : zeroA P t = some z) (h1 : z.all Value.oneCell' = true) :
    OpSem P o s (.vptr s.nx 0) (fun i => if i = s.nx then some (.var (z.map cellV)) else s.H i) (s.nx + 1) [] [] := by
  obtain ⟨f1, f2⟩ := newV_facts (ps := z.map cellV) hn
  refine ⟨by omega, f1, f2, by simp, by simp, ?_⟩
  intro m ρ a w K Q V hf hx hK
  obtain ⟨dst, op', type, pos, after, guard⟩ := o
  simp only at ho
  subst ho
  unfold zeroA at hz
  cases hi : P.info? t with
  | none => simp [hi] at hz
  | some i =>
    cases hzz : i.zero with
    | none => simp [hi, hzz] at hz
    | some zv =>
      simp only [hi, hzz, Option.bind_some, Option.map_some, Option.some.injEq] at hz
      subst hz
      have hrun : (execOp a.eval ⟨dst, .alloc t, type, pos, after, guard⟩).run P w = .ok (.value (.pointer (some ⟨w.heap.size, 0, none⟩))) (w.alloc (.cells zv.cells t)) := by
        simp [execOp, Instr.alloc, zeroValue, typeInfo, hi, hzz, newVar, newRow]
      unfold Oper.wp
      rw [hrun, Oper.upon_value]
      refine hK _ m _ _ (newV (fun i => i ∈ ([] : List Nat)) V hf (repP_map_cellV m ρ zv.cells.toList) (fun u hu => List.all_eq_true.1 h1 u hu) t) ?_
      simp only [Rep]
      exact ⟨w.heap.size, 0, by simp, rfl⟩

theorem boxV_sem {o : Oper} {s : St} {t : TypeId} {x : Operand} (ho : o.op = .box t x) (hn : ∀ i, s.nx ≤ i → s.H i = none) (hs : (evP s.S x).solid = true) :
    OpSem P o s (.vptr s.nx 0) (fun i => if i = s.nx then some (.var (evP s.S x).cellsP) else s.H i) (s.nx + 1) [] [] := by
  obtain ⟨f1, f2⟩ := newV_facts (ps := (evP s.S x).cellsP) hn
  refine ⟨by omega, f1, f2, by simp, by simp, ?_⟩
  intro m ρ a w K Q V hf hx hK
  have h1 := hx x (by simp [ho, Op.operands])
  obtain ⟨c1, c2⟩ := solid_cells hs h1
  obtain ⟨dst, op', type, pos, after, guard⟩ := o
  simp only at ho
  subst ho
  have hrun : (execOp a.eval ⟨dst, .box t x, type, pos, after, guard⟩).run P w = .ok (.value (.pointer (some ⟨w.heap.size, 0, none⟩))) (w.alloc (.cells (a.eval x).cells t)) := by
    simp [execOp, Instr.box, newVar, newRow]
  unfold Oper.wp
  rw [hrun, Oper.upon_value]
  refine hK _ m _ _ (newV (fun i => i ∈ ([] : List Nat)) V hf c1 c2 t) ?_
  simp only [Rep]
  exact ⟨w.heap.size, 0, by simp, rfl⟩

theorem repP_repL {m : Mem} {ρ : Ren} {l : List PV} {ds : List D} {vs : List Value} (h : PV.toDs l = some ds) (hr : RepP m ρ l vs) : RepL m ds vs := RepP.toDs l ds vs h hr

/-- A new variable that nobody writes. -/
theorem boxF_sound {o : Oper} {S : Nat → PV} {t : TypeId} {x : Operand} (ho : o.op = .box t x) (hs : (evP S x).solid = true) {ds : List D} (hd : PV.toDs (evP S x).cellsP = some ds) : PureRun P o S (.d (.cptr ds)) := by
  intro m ρ a w hm hx
  have h1 := hx x (by simp [ho, Op.operands])
  obtain ⟨c1, c2⟩ := solid_cells hs h1
  obtain ⟨dst, op', type, pos, after, guard⟩ := o
  simp only at ho
  subst ho
  obtain ⟨g1, g2, g3, g4⟩ := mem_alloc hm (a.eval x).cells.toList t c2 (fun _ => False)
  refine ⟨.pointer (some ⟨w.heap.size, 0, none⟩), _, _, ?_, g2, g3, ?_⟩
  · simp [execOp, Instr.box, newVar, newRow]
  · simp only [Rep, RepD]
    exact ⟨w.heap.size, 0, rfl, repC_of_vals ((repP_repL hd c1).mono g1) g4⟩
end Go.Proofs.Ytonlehebfeilmaa.K
