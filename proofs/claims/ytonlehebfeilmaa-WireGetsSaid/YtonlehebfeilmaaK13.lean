/- append: onto a row of the call's own, onto nothing, onto a row without room. -/
import Derived.Test.YtonlehebfeilmaaK12
namespace Go.Proofs.Ytonlehebfeilmaa.K
open Go Go.RowKit

variable {P : Program}

def notInt : TypeDesc → Bool
  | .slice _ => true
  | .string => true
  | _ => false

theorem notInt_cases {d : TypeDesc} (h : notInt d = true) : (∃ e, d = .slice e) ∨ d = .string := by
  cases d <;> simp_all [notInt]

section
variable (w : World)

theorem run_append_grows (t u ty e : TypeId) (d : TypeDesc) (i : TypeInfo) (z : Value) (ht : P.underlying t = some (.slice e)) (hu : P.underlying u = some d) (hd : notInt d = true) (hi : P.info? e = some i) (hz : i.zero = some z)
    (base : Option Addr) (sLen sCap n : Nat) (y : Value) (olds news : List Value) (hy : (Builtin.lenOf y).run P w = .ok n w) (ho : (Builtin.firstCells i.size sLen (.slice base sLen sCap)).run P w.drew = .ok olds.toArray w.drew)
    (hn : (Builtin.firstCells i.size n y).run P w.drew = .ok news.toArray w.drew) (hg : sCap < sLen + n) (h63 : sLen + n ≤ 9223372036854775807) (hfit : Builtin.nextslicecap (sLen + n) sCap * i.bytes ≤ 281474976710656) :
    (Builtin.append_ #[t, u] ty #[.slice base sLen sCap, y]).run P w = .ok (.slice (some ⟨w.heap.size, 0, none⟩) (sLen + n) (grownCap w (sLen + n) sCap e))
        (w.drew.alloc (.cells ⟨(olds ++ news) ++ (Builtin.zeroCells z.cells (grownCap w (sLen + n) sCap e - (sLen + n))).toList⟩ e)) := by
  have h1 : ¬ (sLen + n ≤ sCap) := by omega
  have h2 : ¬ (9223372036854775807 < ((sLen : Int) + (n : Int))) := by omega
  have h3 : ¬ (281474976710656 < Builtin.nextslicecap (sLen + n) sCap * i.bytes) := by omega
  rcases notInt_cases hd with ⟨e2, rfl⟩ | rfl
  all_goals
    simp [Builtin.append_, run_underlying ht, run_underlying hu, sizeOf, typeInfo, zeroValue, hi, hz, hy, h1, h2, h3, Question.forced, hn, ho, newRow, grownCap]
    congr 2
    apply Array.ext'
    simp

theorem storeCells_fr (g o : Nat) (t : TypeId) (fr : Nat × Nat) : ∀ (vs : List Value) (i : Nat) (cur : Array Value) (w : World), w.heap[g]? = some (.cells cur t fr) → (fr = (0, 0) ∨ cur.size ≤ fr.1) → o + i + vs.length ≤ cur.size → (∀ v ∈ vs, v.oneCell' = true) →
    (storeCells ⟨g, o, none⟩ vs i).run P w = .ok () (w.setRow g (cur.toList.take (o + i) ++ vs ++ cur.toList.drop (o + i + vs.length)).toArray)
  | [], i, cur, w, hg, _, _, _ => by
    simp only [storeCells, List.append_nil, List.length_nil, Nat.add_zero, List.take_append_drop, Array.toArray_toList]
    rw [setRow_self w g cur t fr hg]
    rfl
  | v :: rest, i, cur, w, hg, hfr, hl, h1 => by
    have hi : o + i < cur.size := by simp at hl; omega
    have hcell : w.cell? ⟨g, o + i, none⟩ = some cur[o + i] := by simp [World.cell?, hg, hi]
    have hfro : w.frozen? ⟨g, o + i, none⟩ = false := by
      simp only [World.frozen?, hg]
      rcases hfr with rfl | hfr
      · simp
      · have : ¬ (fr.1 ≤ o + i) := by omega
        simp [this]
    have hst : (store ((⟨g, o, none⟩ : Addr).add i) v).run P w = .ok () (w.setRow g (cur.setIfInBounds (o + i) v)) := by
      rw [addr_add, run_store P w _ v _ (h1 v (by simp)), hcell]
      simp [hfro, setCell_eq_setRow w g (o + i) cur t fr v hg]
    have ih := storeCells_fr g o t fr rest (i + 1) (cur.setIfInBounds (o + i) v) (w.setRow g (cur.setIfInBounds (o + i) v)) (setRow_heap w g cur _ t _ hg) (by simpa using hfr) (by simp at hl ⊢; omega) (fun x hx => h1 x (by simp [hx]))
    simp only [storeCells, Sem.run_bind, hst, Result.andThen_ok, ih, setRow_setRow]
    congr 3
    have e := list_seg_step cur.toList (o + i) v rest (by simp at hl ⊢; omega)
    simpa [Array.toList_setIfInBounds, Nat.add_assoc] using e

theorem run_append_fits (t u ty e : TypeId) (d : TypeDesc) (i : TypeInfo) (ht : P.underlying t = some (.slice e)) (hu : P.underlying u = some d) (hd : notInt d = true) (hi : P.info? e = some i)
    (g sLen sCap n : Nat) (y : Value) (cur : Array Value) (tb : TypeId) (fr : Nat × Nat) (hg : w.heap[g]? = some (.cells cur tb fr)) (hfr : fr = (0, 0) ∨ cur.size ≤ fr.1) (news : List Value) (hy : (Builtin.lenOf y).run P w = .ok n w)
    (hn : (Builtin.firstCells i.size n y).run P w = .ok news.toArray w) (h1 : ∀ v ∈ news, v.oneCell' = true) (hroom : sLen + n ≤ sCap) (hfit : sLen * i.size + news.length ≤ cur.size) :
    (Builtin.append_ #[t, u] ty #[.slice (some ⟨g, 0, none⟩) sLen sCap, y]).run P w =
      .ok (.slice (some ⟨g, 0, none⟩) (sLen + n) sCap) (w.setRow g (cur.toList.take (sLen * i.size) ++ news ++ cur.toList.drop (sLen * i.size + news.length)).toArray) := by
  have hst := storeCells_fr (P := P) g (sLen * i.size) tb fr news 0 cur w hg hfr (by simpa using hfit) h1
  simp only [Nat.add_zero] at hst
  rcases notInt_cases hd with ⟨e2, rfl⟩ | rfl
  all_goals simp [Builtin.append_, run_underlying ht, run_underlying hu, sizeOf, typeInfo, hi, hy, hroom, hn, addr_add, hst]

theorem run_append_same (t u ty e : TypeId) (d : TypeDesc) (i : TypeInfo) (ht : P.underlying t = some (.slice e)) (hu : P.underlying u = some d) (hd : notInt d = true) (hi : P.info? e = some i)
    (base : Option Addr) (y : Value) (hy : (Builtin.lenOf y).run P w = .ok 0 w) (hn : (Builtin.firstCells i.size 0 y).run P w = .ok #[] w) :
    (Builtin.append_ #[t, u] ty #[.slice base 0 0, y]).run P w = .ok (.slice base 0 0) w := by
  rcases notInt_cases hd with ⟨e2, rfl⟩ | rfl
  all_goals cases base <;> simp [Builtin.append_, run_underlying ht, run_underlying hu, sizeOf, typeInfo, hi, hy, hn, storeCells]
end

/-- The new row of an append that grew. -/
theorem grownDone {s : St} {m : Mem} {ρ : Ren} {w : World} (T : List Nat) (V : ValidOn (· ∈ T) m ρ w s.H) (hf : ∀ i, s.nx ≤ i → i < s.nx + 1 → ρ i = none) {vals rest : List Value} {sz n cap : Nat} (h1 : ∀ v ∈ vals, v.oneCell' = true) (hv : vals.length = n * sz)
    (hr : vals.length + rest.length = cap * sz) (hc : n ≤ cap) (hm : cap ≤ maxLen) (e : TypeId) (Hd : HM) (hd : ∀ i, Hd i = none ∨ Hd i = s.H i) :
    Done (· ∈ T) s.nx (s.nx + 1) m ρ w s.H (m.with w.heap.size vals) (fun i => if i = s.nx then some (w.heap.size, cap) else ρ i) (w.drew.alloc (.cells ⟨vals ++ rest⟩ e)) (fun i => if i = s.nx then some (.spare sz n) else Hd i) := by
  have hle : ρ.le (fun i => if i = s.nx then some (w.heap.size, cap) else ρ i) := by
    intro i x e
    have : i ≠ s.nx := by intro h; subst h; rw [hf _ (Nat.le_refl _) (by omega)] at e; cases e
    simp [this, e]
  have hml := Mem.le_with (vs := vals) (memNone V.mem)
  have hold : ∀ k, k < w.heap.size → (w.drew.alloc (.cells ⟨vals ++ rest⟩ e)).heap[k]? = w.heap[k]? := fun k hk => heap_alloc_old w.drew _ hk
  have hnew : (w.drew.alloc (.cells ⟨vals ++ rest⟩ e)).heap[w.heap.size]? = some (.cells ⟨vals ++ rest⟩ e (0, 0)) := heap_alloc_new w.drew _
  have hnm : ∀ b o v, (m.with w.heap.size vals) b o = some v → m b o = some v ∨ w.heap.size ≤ b := by
    intro b o v h
    unfold Mem.with at h
    split at h
    · exact .inr (by omega)
    · exact .inl h
  have hmem : MemOK (m.with w.heap.size vals) (w.drew.alloc (.cells ⟨vals ++ rest⟩ e)) := by
    refine V.mem.with (fun b ⟨_, _, h⟩ => hold b (V.mem.lt h)) (fun o v h => ?_) h1
    rw [cell_of_block hnew, List.getElem?_append_left (List.getElem?_eq_some_iff.1 h).1]
    exact h
  refine ⟨⟨hml, by simp, fun b hb _ => hold b hb, rfl, rfl, rfl, fun b o v h => (hnm b o v h).imp id .inr⟩, hle, fun i => ?_, ⟨hmem, ?_, ?_⟩, ?_⟩
  · by_cases h : i = s.nx
    · exact .inr ⟨by omega, by omega⟩
    · simp [h]
  · intro i o hi hH
    by_cases h : i = s.nx
    · subst h
      simp only [if_true, Option.some.injEq] at hH
      subst hH
      refine .inr ⟨w.heap.size, cap, _, e, (0, 0), by simp, hnew, by simp; omega, hc, hm, by simp, fun o ho => ?_⟩
      simp only [Mem.with, if_true]
      exact List.getElem?_eq_none (by omega)
    · simp only [h, if_false] at hH
      have hH' : s.H i = some o := by
        rcases hd i with h' | h'
        · rw [h'] at hH; cases hH
        · rw [← h']; exact hH
      have hE := V.entry i o (hi.elim id (by omega)) hH'
      refine hE.move hml hle (by simp [h]) (fun b c hr => hold b (hE.ren hr)) (fun b c hr o' v h' => ?_)
      rcases hnm b o' v h' with h'' | h''
      · exact h''
      · have := hE.ren hr; omega
  · intro i j b c c' hi hj hHi hHj hri hrj
    have old : ∀ k, (k ∈ T ∨ (s.nx ≤ k ∧ k < s.nx + 1)) → k ≠ s.nx → (if k = s.nx then some (HO.spare sz n) else Hd k) ≠ none → ∀ b c, (if k = s.nx then some (w.heap.size, cap) else ρ k) = some (b, c) → k ∈ T ∧ s.H k ≠ none ∧ ρ k = some (b, c) ∧ b < w.heap.size := by
      intro k hk hne hl b c hr
      simp only [hne, if_false] at hl hr
      have hTk : k ∈ T := hk.elim id (by omega)
      have hl' : s.H k ≠ none := by
        rcases hd k with h' | h'
        · exact absurd h' hl
        · rw [← h']; exact hl
      refine ⟨hTk, hl', hr, ?_⟩
      cases e : s.H k with
      | none => exact absurd e hl'
      | some o => exact (V.entry k o hTk e).ren hr
    by_cases h : i = s.nx <;> by_cases h' : j = s.nx
    · rw [h, h']
    · subst h
      have := old j hj h' hHj b c' hrj
      simp at hri
      omega
    · subst h'
      have := old i hi h hHi b c hri
      simp at hrj
      omega
    · have e1 := old i hi h hHi b c hri
      have e2 := old j hj h' hHj b c' hrj
      exact V.apart i j b c c' e1.1 e2.1 e1.2.1 e2.2.1 e1.2.2.1 e2.2.2.1
  · rintro b ⟨i, c, hi, hl, hr⟩
    by_cases h : i = s.nx
    · subst h
      simp at hr
      exact .inr (by omega)
    · simp only [h, if_false] at hl hr
      have hl' : s.H i ≠ none := by
        rcases hd i with h' | h'
        · exact absurd h' hl
        · rw [← h']; exact hl
      exact .inl ⟨i, c, hi.elim id (by omega), hl', hr⟩

/-- What may be appended: a row, or a string. -/
def PV.more : PV → Option (List D)
  | .d (.val (.string s)) => some (s.data.toList.map byteD)
  | p => p.elems

/-- What is appended: how many elements, and their cells. -/
theorem news_of {m : Mem} {ρ : Ren} {w : World} (hm : MemOK m w) {p : PV} {v : Value} {l : List D} (hp : p.more = some l) (h : Rep m ρ p v) {sz : Nat} (hs : ∀ x ∈ l, x.cells.length = sz) :
    (Builtin.lenOf v).run P w = .ok l.length w ∧ ∃ news : List Value, news.length = l.length * sz ∧ RepL m (l.flatMap D.cells) news ∧ (∀ u ∈ news, u.oneCell' = true) ∧
      ∀ w' : World, w'.heap = w.heap → (Builtin.firstCells sz l.length v).run P w' = .ok news.toArray w' := by
  have row : p.elems = some l → (Builtin.lenOf v).run P w = .ok l.length w ∧ ∃ news : List Value, news.length = l.length * sz ∧ RepL m (l.flatMap D.cells) news ∧ (∀ u ∈ news, u.oneCell' = true) ∧
      ∀ w' : World, w'.heap = w.heap → (Builtin.firstCells sz l.length v).run P w' = .ok news.toArray w' := by
    intro hp
    obtain ⟨ad, c, rfl, _, hrep⟩ := elems_rep hp h
    refine ⟨by simp [Builtin.lenOf], ?_⟩
    rcases hrep with rfl | ⟨b, o, rfl, hE⟩
    · refine ⟨[], by simp, by simp [RepL], by simp, fun w' _ => ?_⟩
      cases ad with
      | none => simp [Builtin.firstCells]
      | some ad => simp [Builtin.firstCells, loadCells, loadCellsFrom]
    · obtain ⟨vs, e1, e2, e3⟩ := repE_vals hE
      rw [sum_cells hs] at e1
      obtain ⟨f1, f2⟩ := memOK_cells hm e3
      refine ⟨vs, e1, e2, f2, fun w' hw => ?_⟩
      refine run_firstCells_some (P := P) w' sz l.length ⟨b, o, none⟩ _ _ vs e1 (fun j u hj => ?_)
      have := f1 j u hj
      unfold World.cell? at this ⊢
      rw [hw]; exact this
  unfold PV.more at hp
  split at hp
  · rename_i s
    simp only [Option.some.injEq] at hp
    subst hp
    simp only [Rep, RepD] at h
    subst h
    refine ⟨by simp [Builtin.lenOf], s.data.toList.map (fun b => .int .u8 b.toNat), ?_, ?_, ?_, ?_⟩
    · have hlen : (s.data.toList.map byteD).length * sz = (s.data.toList.map byteD).length := by
        cases hL : s.data.toList with
        | nil => simp
        | cons b r =>
          have := hs (byteD b) (by rw [hL]; simp)
          simp only [byteD, D.cells, List.length_singleton] at this
          rw [← this, Nat.mul_one]
      rw [hlen]
      simp
    · rw [flatMap_byteD]
      have : ∀ bs : List UInt8, RepL m (bs.map byteD) (bs.map fun b => .int .u8 b.toNat) := by
        intro bs
        induction bs with
        | nil => simp [RepL]
        | cons b r ih => simp only [List.map_cons, RepL, byteD, RepD]; exact ⟨_, _, rfl, rfl, ih⟩
      exact this _
    · intro u hu
      obtain ⟨b, _, rfl⟩ := List.mem_map.1 hu
      rfl
    · intro w' _
      simp only [Builtin.firstCells, Sem.run_pure, List.length_map]
      congr 1
      apply Array.ext'
      have : s.extract 0 s.data.toList.length = s := by
        have : s.data.toList.length = s.size := by rw [Array.length_toList]; rfl
        rw [this]
        exact ByteArray.extract_zero_size
      rw [this]
      simp
  · exact row hp

theorem run_call_append {o : Oper} {a : Act} {w w' : World} {x y : Operand} {t u : TypeId} {v : Value} (ho : o.op = .call { callee := .builtin .append, args := #[x, y], argTypes := #[t, u] }) (h : (Builtin.append_ #[t, u] o.type #[a.eval x, a.eval y]).run P w = .ok v w') :
    (execOp a.eval o).run P w = .ok (.value v) w' := by
  obtain ⟨dst, op', type, pos, after, guard⟩ := o
  simp only at ho h
  subst ho
  simp [execOp, resolve, invoke, builtin, h]

theorem flat_append {l l' : List D} {m : Mem} {us vs : List Value} (h : RepL m (l.flatMap D.cells) us) (h' : RepL m (l'.flatMap D.cells) vs) : RepL m ((l ++ l').flatMap D.cells) (us ++ vs) := by
  rw [List.flatMap_append]; exact repL_append h h'

/-- Onto a row without room, or onto nothing. -/
theorem append_full_sem {o : Oper} {s : St} {t u : TypeId} {x y : Operand} {l l2 : List D} (ho : o.op = .call { callee := .builtin .append, args := #[x, y], argTypes := #[t, u] }) {sz by' : Nat} (hrow : rowA P t = some (sz, by')) {d : TypeDesc} (hu : P.underlying u = some d) (hd : notInt d = true)
    (hx : evP s.S x = .full l) (hy : (evP s.S y).more = some l2) (hn : ∀ i, s.nx ≤ i → s.H i = none) (c1 : ∀ z ∈ l, z.cells.length = sz) (c2 : ∀ z ∈ l2, z.cells.length = sz) (hb : (l.length + l2.length) * by' ≤ 140737488355328) (hm : l.length + l2.length ≤ maxLen) (hne : l2 = [] → l = []) :
    OpSem P o s (.own s.nx (l ++ l2)) (fun i => if i = s.nx then some (.spare sz (l.length + l2.length)) else s.H i) (s.nx + 1) [] [] := by
  refine ⟨by omega, fun i _ hi => ?_, fun i hi => ?_, by simp, by simp, ?_⟩
  · have : i ≠ s.nx := by omega
    simp [this]
  · have : i ≠ s.nx := by omega
    simp [this, hn i (by omega)]
  intro m ρ a w K Q V hf hxs hK
  have h1 := hxs x (by simp [ho, Op.operands, Call.operands])
  have h2 := hxs y (by simp [ho, Op.operands, Call.operands])
  rw [hx] at h1
  obtain ⟨e, i, z, hte, hi, hz, hzs, h0, hsz, hby⟩ := rowA_spec hrow
  obtain ⟨g1, news, g2, g3, g4, g5⟩ := news_of (P := P) V.mem hy h2 c2
  obtain ⟨q1, olds, q2, q3, q4, q5⟩ := news_of (P := P) V.mem (p := .full l) rfl h1 c1
  simp only [Rep] at h1
  obtain ⟨ad, ev, hrep⟩ := h1
  subst hsz
  subst hby
  unfold Oper.wp
  by_cases hk : l2 = []
  · have hl := hne hk
    subst hk; subst hl
    have hrun := run_append_same (P := P) w t u o.type e d i hte hu hd hi ad (a.eval y) (by simpa using g1) (by
      have := g5 w rfl
      have hnn : news = [] := List.eq_nil_of_length_eq_zero (by simpa using g2)
      subst hnn
      simpa using this)
    rw [run_call_append ho (by rw [ev]; exact hrun), Oper.upon_value]
    have hle : ρ.le ρ := Ren.le_refl _
    refine hK _ m ρ w ⟨Ext.refl _ _ _, hle, fun i => .inl rfl, ⟨V.mem, ?_, ?_⟩, ?_⟩ ?_
    · intro k ob hk' hH
      have hk'' : k = s.nx := by have := hk'.elim (fun h => by cases h) id; omega
      subst hk''
      simp only [if_true, Option.some.injEq] at hH
      subst hH
      exact .inl ⟨rfl, hf _ (Nat.le_refl _) (by omega)⟩
    · intro k j b c c' hk' _ _ _ hr _
      have hk'' : k = s.nx := by have := hk'.elim (fun h => by cases h) id; omega
      subst hk''
      rw [hf _ (Nat.le_refl _) (by omega)] at hr; cases hr
    · rintro b ⟨k, c, hk', _, hr⟩
      have hk'' : k = s.nx := by have := hk'.elim (fun h => by cases h) id; omega
      subst hk''
      rw [hf _ (Nat.le_refl _) (by omega)] at hr; cases hr
    · simp only [Rep]
      exact .inr ⟨rfl, ad, rfl⟩
  · have hpos : 0 < l2.length := List.length_pos_iff.2 hk
    have hgrow : l.length < l.length + l2.length := by omega
    have hrun := run_append_grows (P := P) w t u o.type e d i z hte hu hd hi hz ad l.length l.length l2.length (a.eval y) olds news g1 (by
      have := q5 w.drew rfl
      rw [ev] at this
      exact this) (g5 w.drew rfl) hgrow (by simp only [maxLen] at hm; omega) (growslice_fits hgrow hb)
    rw [run_call_append ho (by rw [ev]; exact hrun), Oper.upon_value]
    have hge := grownCap_ge w (l.length + l2.length) l.length e
    have hcm := grownCap_le_maxLen w (l.length + l2.length) l.length e hm
    have hlen : (olds ++ news).length = (l.length + l2.length) * i.size := by rw [List.length_append, q2, g2, Nat.add_mul]
    have hD := grownDone (s := s) (w := w) [] V hf (vals := olds ++ news) (rest := (Builtin.zeroCells z.cells (grownCap w (l.length + l2.length) l.length e - (l.length + l2.length))).toList) (sz := i.size) (n := l.length + l2.length) (cap := grownCap w (l.length + l2.length) l.length e)
      (fun v hv => (List.mem_append.1 hv).elim (q4 v) (g4 v)) hlen (by
        have hzc : (Builtin.zeroCells z.cells (grownCap w (l.length + l2.length) l.length e - (l.length + l2.length))).toList.length = (grownCap w (l.length + l2.length) l.length e - (l.length + l2.length)) * i.size := by
          rw [Array.length_toList, size_zeroCells, hzs]
        rw [hlen, hzc, ← Nat.add_mul]
        congr 1
        omega) hge hcm e s.H (fun i => .inr rfl)
    refine hK _ _ _ _ hD ?_
    simp only [Rep]
    refine .inl ⟨w.heap.size, grownCap w (l.length + l2.length) l.length e, by simp, by simp, by simpa using hge, ?_⟩
    exact repE_of_vals ((flat_append q3 g3).mono (Mem.le_with (memNone V.mem))) (fun j v hj => by simp [Mem.with, hj])
end Go.Proofs.Ytonlehebfeilmaa.K
