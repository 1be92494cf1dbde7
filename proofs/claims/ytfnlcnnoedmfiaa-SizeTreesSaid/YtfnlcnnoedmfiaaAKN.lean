import Derived.Test.YtfnlcnnoedmfiaaAKM
/- A row that is made and is one's own, so that it may be appended to. -/
namespace Go.Proofs.Ytfnlcnnoedmfiaa.K
open Go Go.RowKit
set_option linter.unusedVariables false
set_option linter.unusedSimpArgs false
set_option linter.unusedSectionVars false
variable {P : Program}
theorem builtDone {s : St} {m : Mem} {ρ : Ren} {w : World} (T : List Nat) (V : ValidOn (· ∈ T) m ρ w s.H) (hf : ∀ i, s.nx ≤ i → i < s.nx + 1 → ρ i = none) {vals rest : List Value} {sz n cap : Nat} (h1 : ∀ v ∈ vals, v.oneCell' = true) (hv : vals.length = n * sz)
    (hr : vals.length + rest.length = cap * sz) (hc : n ≤ cap) (hm : cap ≤ maxLen) (e : TypeId) (Hd : HM) (hd : ∀ i, Hd i = none ∨ Hd i = s.H i) :
    Done (· ∈ T) s.nx (s.nx + 1) m ρ w s.H (m.with w.heap.size vals) (fun i => if i = s.nx then some (w.heap.size, cap) else ρ i) (w.alloc (.cells ⟨vals ++ rest⟩ e)) (fun i => if i = s.nx then some (.spare sz n) else Hd i) := by
  have hle : ρ.le (fun i => if i = s.nx then some (w.heap.size, cap) else ρ i) := by
    intro i x e
    have : i ≠ s.nx := by intro h; subst h; rw [hf _ (Nat.le_refl _) (by omega)] at e; cases e
    simp [this, e]
  have hml := Mem.le_with (vs := vals) (memNone V.mem)
  have hold : ∀ k, k < w.heap.size → (w.alloc (.cells ⟨vals ++ rest⟩ e)).heap[k]? = w.heap[k]? := fun k hk => heap_alloc_old w _ hk
  have hnew : (w.alloc (.cells ⟨vals ++ rest⟩ e)).heap[w.heap.size]? = some (.cells ⟨vals ++ rest⟩ e (0, 0)) := heap_alloc_new w _
  have hnm : ∀ b o v, (m.with w.heap.size vals) b o = some v → m b o = some v ∨ w.heap.size ≤ b := by
    intro b o v h
    unfold Mem.with at h
    split at h
    · exact .inr (by omega)
    · exact .inl h
  have hmem : MemOK (m.with w.heap.size vals) (w.alloc (.cells ⟨vals ++ rest⟩ e)) := by
    refine V.mem.with (fun b ⟨_, _, h⟩ => hold b (V.mem.lt h)) (fun o v h => ?_) h1
    rw [cell_of_block hnew, List.getElem?_append_left (List.getElem?_eq_some_iff.1 h).1]
    exact h
  refine ⟨⟨hml, by simp, fun b hb _ => hold b hb, rfl, rfl, rfl, fun b o v h => (hnm b o v h).imp id .inr⟩, hle, fun i => ?_, ⟨hmem, ?_, ?_⟩, ?_⟩
  · by_cases h : i = s.nx
    · exact .inr ⟨by omega, by omega⟩
    · simp [h]
  · intro i o hi hH
    by_cases h : i = s.nx
    · subst h
      simp only [if_true, Option.some.injEq] at hH
      subst hH
      refine .inr ⟨w.heap.size, cap, _, e, (0, 0), by simp, hnew, by simp; omega, hc, hm, by simp, fun o ho => ?_⟩
      simp only [Mem.with, if_true]
      exact List.getElem?_eq_none (by omega)
    · simp only [h, if_false] at hH
      have hH' : s.H i = some o := by
        rcases hd i with h' | h'
        · rw [h'] at hH; cases hH
        · rw [← h']; exact hH
      have hE := V.entry i o (hi.elim id (by omega)) hH'
      refine hE.move hml hle (by simp [h]) (fun b c hr => hold b (hE.ren hr)) (fun b c hr o' v h' => ?_)
      rcases hnm b o' v h' with h'' | h''
      · exact h''
      · have := hE.ren hr; omega
  · intro i j b c c' hi hj hHi hHj hri hrj
    have old : ∀ k, (k ∈ T ∨ (s.nx ≤ k ∧ k < s.nx + 1)) → k ≠ s.nx → (if k = s.nx then some (HO.spare sz n) else Hd k) ≠ none → ∀ b c, (if k = s.nx then some (w.heap.size, cap) else ρ k) = some (b, c) → k ∈ T ∧ s.H k ≠ none ∧ ρ k = some (b, c) ∧ b < w.heap.size := by
      intro k hk hne hl b c hr
      simp only [hne, if_false] at hl hr
      have hTk : k ∈ T := hk.elim id (by omega)
      have hl' : s.H k ≠ none := by
        rcases hd k with h' | h'
        · exact absurd h' hl
        · rw [← h']; exact hl
      refine ⟨hTk, hl', hr, ?_⟩
      cases e : s.H k with
      | none => exact absurd e hl'
      | some o => exact (V.entry k o hTk e).ren hr
    by_cases h : i = s.nx <;> by_cases h' : j = s.nx
    · rw [h, h']
    · subst h
      have := old j hj h' hHj b c' hrj
      simp at hri
      omega
    · subst h'
      have := old i hi h hHi b c hri
      simp at hrj
      omega
    · have e1 := old i hi h hHi b c hri
      have e2 := old j hj h' hHj b c' hrj
      exact V.apart i j b c c' e1.1 e2.1 e1.2.1 e2.2.1 e1.2.2.1 e2.2.2.1
  · rintro b ⟨i, c, hi, hl, hr⟩
    by_cases h : i = s.nx
    · subst h
      simp at hr
      exact .inr (by omega)
    · simp only [h, if_false] at hl hr
      have hl' : s.H i ≠ none := by
        rcases hd i with h' | h'
        · exact absurd h' hl
        · rw [← h']; exact hl
      exact .inl ⟨i, c, hi.elim id (by omega), hl', hr⟩
theorem built_run {o : Oper} {m : Mem} {ρ : Ren} {a : Act} {w : World} (hm : MemOK m w) {S : Nat → PV} {t : TypeId} {n : Nat} {parts : Array (Nat × Operand)} (ho : o.op = .buildSlice t n parts) {sz by' : Nat} (ht : rowA P t = some (sz, by')) (hn : parts.toList.map (·.1) = List.range n) (hsmall : n * sz ≤ 2 ^ 24)
    {xs : List D} (hx : PV.toDs (parts.toList.map fun x => evP S x.2) = some xs) (hs : ∀ x ∈ parts.toList, (evP S x.2).solid = true) (hl : ∀ x ∈ xs, x.cells.length = sz) (hx' : ∀ x ∈ o.op.operands, Rep m ρ (evP S x) (a.eval x)) :
    ∃ us e, (execOp a.eval o).run P w = .ok (.value (.slice (some ⟨w.heap.size, 0, none⟩) n n)) (w.alloc (.cells ⟨us⟩ e)) ∧ RepL m (xs.flatMap D.cells) us ∧ (∀ v ∈ us, v.oneCell' = true) ∧ xs.length = n := by
  have h1 : ∀ x ∈ parts.toList, Rep m ρ (evP S x.2) (a.eval x.2) := fun x hxx => hx' x.2 (by
    simp only [ho, Op.operands]
    rw [Array.mem_def]
    exact List.mem_map.2 ⟨x, hxx, rfl⟩)
  obtain ⟨dst, op', type, pos, after, guard⟩ := o
  simp only at ho
  subst ho
  obtain ⟨e, i, z, hu, hi, hz, hzs, h0, hsz, _⟩ := rowA_spec ht
  have hlen : parts.toList.length = n := by have := congrArg List.length hn; simpa using this
  have hxl : xs.length = n := by
    have : ∀ (l : List PV) (ys : List D), PV.toDs l = some ys → ys.length = l.length := by
      intro l
      induction l with
      | nil => intro ys h; simp only [PV.toDs, Option.some.injEq] at h; subst h; rfl
      | cons p r ih =>
        intro ys h
        simp only [PV.toDs] at h
        cases hp : PV.toD p with
        | none => simp [hp] at h
        | some y =>
          simp only [hp, Option.map_eq_some_iff] at h
          obtain ⟨zr, h1, rfl⟩ := h
          simp [ih zr h1]
    rw [this _ _ hx]; simpa using hlen
  have hzl : ((Array.range (n * sz)).map (fun k => (if n * sz = 0 then #[] else z.cells)[k % (if n * sz = 0 then #[] else z.cells).size]!)).toList.length = parts.toList.length * sz := by simp [← hlen]
  obtain ⟨us, f1, f2, f3⟩ := fill_row (m := m) (ρ := ρ) (S := S) (a := a) (sz := sz) parts.toList xs 0 [] _ (by simp) hzl (by rw [hn, hlen, List.range_eq_range']) hx hs hl h1
  simp only [List.nil_append] at f1
  refine ⟨us, e, ?_, f2, f3, hxl⟩
  · have hb : ¬ (n * sz > 2 ^ 24) := by omega
    simp only [execOp, Instr.buildSlice, Sem.run_bind, run_underlying hu, Result.andThen_ok, sizeOf, typeInfo, run_program, hi, Sem.run_pure, hsz, if_neg hb, zeroValue]
    have f1' : Instr.fill (fun i => some (i * sz, sz)) ((Array.range (n * sz)).map (fun k => (if n * sz = 0 then #[] else z.cells)[k % (if n * sz = 0 then #[] else z.cells).size]!)) (parts.toList.map fun x => (x.1, a.eval x.2)) = some ⟨us⟩ := by
      rw [← f1]
    by_cases h00 : n * sz = 0
    · have hn0 : n = 0 := (Nat.mul_eq_zero.1 h00).resolve_right (by omega)
      have hp0 : parts.toList = [] := List.eq_nil_of_length_eq_zero (by omega)
      simp only [hp0, List.map_nil, Instr.fill, Option.some.injEq] at f1'
      have hu0 : us = [] := by
        have := congrArg Array.size f1'
        simp [h00] at this
        exact List.eq_nil_of_length_eq_zero this.symm
      subst hu0
      have e0 : (Array.range 0).map (fun _ => (default : Value)) = ⟨[]⟩ := by apply Array.ext'; simp
      simp [h00, hp0, Instr.fill, newRow, e0]
    · simp only [h00, if_false] at f1' ⊢
      simp [f1', newRow, hi, hz]
section
variable {o : Oper} {S : Nat → PV} {H : HM} {nx : Nat} {df : List (Nat × List PV)} {k : PV → HM → Nat → List Nat → List Nat → Prop} {α : Type} {en : α → D} {c : α → List D} {sz : Nat}
theorem so_rowO {t : TypeId} {n by' : Nat} {parts : Array (Nat × Operand)} {l : List α} (ho : o.op = .buildSlice t n parts) (ht : rowA P t = some (sz, by')) (hl : Lay en c sz) (hx : PV.toDs (partsP S parts.toList) = some (l.map en)) (h1 : keysOf parts.toList = List.range n) (h2 : n * sz ≤ 2 ^ 24)
    (h3 : solids (partsP S parts.toList)) (hk : k (.own nx (l.map en)) (putH H nx (some (.spare sz l.length))) (nx + 1) [] []) : stepO P o ⟨S, H, nx, df⟩ k := by
  intro hn
  refine ⟨_, _, _, _, _, ⟨Nat.le_succ _, fun i _ hi => ?_, fun i hi => ?_, by simp, by simp, ?_⟩, hk⟩
  · have : i ≠ nx := Nat.ne_of_lt hi
    simp [putH, this]
  · have hi : nx + 1 ≤ i := hi
    have : i ≠ nx := by omega
    simp only [putH, this, if_false]; exact hn i (show nx ≤ i by omega)
  intro m ρ a w K Q V hf hxs hK
  have hz := rowA_spec ht
  rw [partsP_eq] at hx
  obtain ⟨us, e, r1, r2, r3, r5⟩ := built_run (P := P) (w := w) V.mem ho ht (by rw [← keysOf_eq]; exact h1) h2 hx (solids_mem S _ h3) (fun x hx => hl.all l x hx) hxs
  have hlen : l.length = n := by simpa using r5
  have r4 : us.length = n * sz := by
    have a1 := repL_len r2
    have a2 := rowC_len hl l
    unfold rowC at a2
    rw [List.length_map] at a2
    rw [a1, a2, hlen]
  have hn' : n ≤ maxLen := by
    obtain ⟨e', i', z', _, _, _, _, h0, hsz, _⟩ := hz
    have : n * 1 ≤ n * sz := Nat.mul_le_mul_left _ (by omega)
    rw [maxLen_val]; omega
  unfold Oper.wp
  rw [r1, Oper.upon_value]
  have hD := builtDone (s := ⟨S, H, nx, df⟩) (w := w) [] V hf (vals := us) (rest := []) (sz := sz) (n := n) (cap := n) r3 r4 (by simp; omega) (Nat.le_refl _) hn' e H (fun i => .inr rfl)
  rw [List.append_nil] at hD
  subst hlen
  refine hK _ _ _ _ hD ?_
  simp only [Rep]
  refine .inl ⟨w.heap.size, l.length, by simp, by simp, by simp, ?_⟩
  exact repE_of_vals (r2.mono (Mem.le_with (memNone V.mem))) (fun j v hj => by simp [Mem.with, hj])
end
def e64 (x : BitVec 64) : D := .val (.int .u64 (x.toNat : Int))
theorem lay_64 : Lay e64 (fun x => [.val (.int .u64 (x.toNat : Int))]) 1 := ⟨fun _ => rfl, fun _ => rfl⟩
end Go.Proofs.Ytfnlcnnoedmfiaa.K
