/- append onto a row of the call's own. -/
import Derived.Test.YtonlehebfeilmaaK13
namespace Go.Proofs.Ytonlehebfeilmaa.K
open Go Go.RowKit

variable {P : Program}

def Mem.more (m : Mem) (b lo : Nat) (vs : List Value) : Mem := fun b' o => if b' = b ∧ lo ≤ o ∧ o < lo + vs.length then vs[o - lo]? else m b' o

theorem append_own_sem {o : Oper} {s : St} {t u : TypeId} {x y : Operand} {ix : Nat} {l l2 : List D} (ho : o.op = .call { callee := .builtin .append, args := #[x, y], argTypes := #[t, u] }) {sz by' : Nat} (hrow : rowA P t = some (sz, by')) {d : TypeDesc} (hu : P.underlying u = some d) (hd : notInt d = true)
    (hx : evP s.S x = .own ix l) (hH : s.H ix = some (.spare sz l.length)) (hy : (evP s.S y).more = some l2) (hn : ∀ i, s.nx ≤ i → s.H i = none) (c1 : ∀ z ∈ l, z.cells.length = sz) (c2 : ∀ z ∈ l2, z.cells.length = sz)
    (hb : (l.length + l2.length) * by' ≤ 140737488355328) (hm : l.length + l2.length ≤ maxLen) :
    OpSem P o s (.own s.nx (l ++ l2)) (fun i => if i = s.nx then some (.spare sz (l.length + l2.length)) else if i = ix then none else s.H i) (s.nx + 1) [ix] [ix] := by
  have hid : ix < s.nx := by
    rcases Nat.lt_or_ge ix s.nx with h | h
    · exact h
    · rw [hn ix h] at hH; cases hH
  refine ⟨by omega, fun i hi hlt => ?_, fun i hi => ?_, by simp, by simpa using hid, ?_⟩
  · have h1 : i ≠ s.nx := by omega
    have h2 : i ≠ ix := by simpa using hi
    simp [h1, h2]
  · have h1 : i ≠ s.nx := by omega
    have h2 : i ≠ ix := by omega
    simp [h1, h2, hn i (by omega)]
  intro m ρ a w K Q V hf hxs hK
  have h1 := hxs x (by simp [ho, Op.operands, Call.operands])
  have h2 := hxs y (by simp [ho, Op.operands, Call.operands])
  rw [hx] at h1
  obtain ⟨e, i, z, hte, hi, hz, hzs, h0, hsz, hby⟩ := rowA_spec hrow
  obtain ⟨g1, news, g2, g3, g4, g5⟩ := news_of (P := P) V.mem hy h2 c2
  subst hsz
  subst hby
  have hE0 := V.entry ix _ (by simp) hH
  unfold Oper.wp
  -- the row moves
  have moved : ∀ (base : Option Addr) (n0 cap0 : Nat) (olds : List Value), a.eval x = .slice base n0 cap0 → n0 = l.length → olds.length = l.length * i.size → RepL m (l.flatMap D.cells) olds → (∀ u ∈ olds, u.oneCell' = true) →
      (∀ w' : World, w'.heap = w.heap → (Builtin.firstCells i.size l.length (.slice base l.length cap0)).run P w' = .ok olds.toArray w') → cap0 < l.length + l2.length →
      Oper.upon P o a K Q ((execOp a.eval o).run P w) := by
    intro base n0 cap0 olds ev hn0 q2 q3 q4 q5 hgrow
    subst hn0
    have hrun := run_append_grows (P := P) w t u o.type e d i z hte hu hd hi hz base l.length cap0 l2.length (a.eval y) olds news g1 (q5 w.drew rfl) (g5 w.drew rfl) hgrow (by simp only [maxLen] at hm; omega) (growslice_fits hgrow hb)
    rw [run_call_append ho (by rw [ev]; exact hrun), Oper.upon_value]
    have hge := grownCap_ge w (l.length + l2.length) cap0 e
    have hcm := grownCap_le_maxLen w (l.length + l2.length) cap0 e hm
    have hlen : (olds ++ news).length = (l.length + l2.length) * i.size := by rw [List.length_append, q2, g2, Nat.add_mul]
    have hzc : (Builtin.zeroCells z.cells (grownCap w (l.length + l2.length) cap0 e - (l.length + l2.length))).toList.length = (grownCap w (l.length + l2.length) cap0 e - (l.length + l2.length)) * i.size := by
      rw [Array.length_toList, size_zeroCells, hzs]
    have hD := grownDone (s := s) (w := w) [ix] V hf (vals := olds ++ news) (rest := (Builtin.zeroCells z.cells (grownCap w (l.length + l2.length) cap0 e - (l.length + l2.length))).toList) (sz := i.size) (n := l.length + l2.length) (cap := grownCap w (l.length + l2.length) cap0 e)
      (fun v hv => (List.mem_append.1 hv).elim (q4 v) (g4 v)) hlen (by
        rw [hlen, hzc, ← Nat.add_mul]
        congr 1
        omega) hge hcm e (fun k => if k = ix then none else s.H k) (fun k => by by_cases h : k = ix <;> simp [h])
    refine hK _ _ _ _ hD ?_
    simp only [Rep]
    refine .inl ⟨w.heap.size, grownCap w (l.length + l2.length) cap0 e, by simp, by simp, by simpa using hge, ?_⟩
    exact repE_of_vals ((flat_append q3 g3).mono (Mem.le_with (memNone V.mem))) (fun j v hj => by simp [Mem.with, hj])
  simp only [Rep] at h1
  rcases h1 with ⟨b, c, hr, ev, hlc, hE⟩ | ⟨rfl, base, ev⟩
  · obtain ⟨vs0, f1, f2, f3⟩ := repE_vals hE
    rw [sum_cells c1] at f1
    obtain ⟨f4, f5⟩ := memOK_cells V.mem f3
    by_cases hfit : l.length + l2.length ≤ c
    · -- in place
      rcases hE0 with ⟨_, e0⟩ | ⟨b', c', vs, tb, fr, hr', hblk, hvs, hnc, hcm, hfr, hno⟩
      · rw [hr] at e0; cases e0
      rw [hr] at hr'; cases hr'
      have hfr' : fr = (0, 0) ∨ vs.size ≤ fr.1 := by
        by_cases h : fr = (0, 0)
        · exact .inl h
        · rw [if_neg h] at hfr; exact .inr (by omega)
      have hsz2 : (l.length + l2.length) * i.size ≤ vs.size := by rw [hvs]; exact Nat.mul_le_mul_right _ hfit
      have hsz3 : l.length * i.size + news.length ≤ vs.size := by rw [g2, ← Nat.add_mul]; exact hsz2
      have hrun := run_append_fits (P := P) w t u o.type e d i hte hu hd hi b l.length c l2.length (a.eval y) vs tb fr hblk hfr' news g1 (g5 w rfl) g4 hfit hsz3
      rw [run_call_append ho (by rw [ev]; exact hrun), Oper.upon_value]
      generalize hw' : w.setRow b (vs.toList.take (l.length * i.size) ++ news ++ vs.toList.drop (l.length * i.size + news.length)).toArray = w'
      have hother : ∀ k, k ≠ b → w'.heap[k]? = w.heap[k]? := fun k hk => by rw [← hw']; exact setRow_other w b k _ hk
      have hnew : w'.heap[b]? = some (.cells (vs.toList.take (l.length * i.size) ++ news ++ vs.toList.drop (l.length * i.size + news.length)).toArray tb fr) := by rw [← hw']; exact setRow_heap w b vs _ tb fr hblk
      have hsize : w'.heap.size = w.heap.size := by rw [← hw']; simp [World.setRow]
      have hbs : b < w.heap.size := (Array.getElem?_eq_some_iff.1 hblk).1
      have cellnew : ∀ k, w'.cell? ⟨b, k, none⟩ = (vs.toList.take (l.length * i.size) ++ news ++ vs.toList.drop (l.length * i.size + news.length))[k]? := fun k => cell_of_block (vs := vs.toList.take (l.length * i.size) ++ news ++ vs.toList.drop (l.length * i.size + news.length)) hnew k
      have htl : (vs.toList.take (l.length * i.size)).length = l.length * i.size := by simp; omega
      have hml : m.le (m.more b (l.length * i.size) news) := by
        intro b2 o2 v2 h
        unfold Mem.more
        split
        · rename_i hc
          obtain ⟨rfl, hlo, _⟩ := hc
          rw [hno o2 hlo] at h; cases h
        · exact h
      have hmem : MemOK (m.more b (l.length * i.size) news) w' := by
        intro b2 o2 v2 h
        unfold Mem.more at h
        split at h
        · rename_i hc
          obtain ⟨rfl, hlo, hhi⟩ := hc
          refine ⟨?_, g4 v2 (List.mem_of_getElem? h)⟩
          rw [cellnew, List.append_assoc, List.getElem?_append_right (by omega), List.getElem?_append_left (by omega), htl]
          exact h
        · obtain ⟨p1, p2⟩ := V.mem b2 o2 v2 h
          refine ⟨?_, p2⟩
          by_cases hb2 : b2 = b
          · subst hb2
            have hlt : o2 < l.length * i.size := by
              rcases Nat.lt_or_ge o2 (l.length * i.size) with h' | h'
              · exact h'
              · rw [hno o2 h'] at h; cases h
            rw [cellnew, List.append_assoc, List.getElem?_append_left (by omega), List.getElem?_take, if_pos hlt]
            rw [cell_of_block (vs := vs.toList) (by simpa using hblk)] at p1
            exact p1
          · rw [cell_same (hother b2 hb2)]; exact p1
      have hle : ρ.le (fun k => if k = s.nx then some (b, c) else ρ k) := by
        intro k x' e'
        have : k ≠ s.nx := by intro h; subst h; rw [hf _ (Nat.le_refl _) (by omega)] at e'; cases e'
        simp [this, e']
      have hnm : ∀ b2 o2 v2, (m.more b (l.length * i.size) news) b2 o2 = some v2 → m b2 o2 = some v2 ∨ b2 = b := by
        intro b2 o2 v2 h
        unfold Mem.more at h
        split at h
        · rename_i hc; exact .inr hc.1
        · exact .inl h
      have hblkT : Blk ρ s.H (fun k => k ∈ [ix]) b := ⟨ix, c, by simp, by rw [hH]; simp, hr⟩
      refine hK _ (m.more b (l.length * i.size) news) (fun k => if k = s.nx then some (b, c) else ρ k) w' ⟨⟨hml, by omega, fun k hk hnb => hother k (fun e' => hnb (by rw [e']; exact hblkT)), ?_, ?_, ?_, fun b2 o2 v2 h => (hnm b2 o2 v2 h).imp id (fun h' => .inl (by rw [h']; exact hblkT))⟩, hle, fun k => ?_, ⟨hmem, ?_, ?_⟩, ?_⟩ ?_
      · rw [← hw']; rfl
      · rw [← hw']; rfl
      · rw [← hw']; rfl
      · by_cases h : k = s.nx
        · exact .inr ⟨by omega, by omega⟩
        · simp [h]
      · intro k ob hk hHk
        have hk' : k = s.nx := by
          rcases hk with h | h
          · have hkix : k = ix := by simpa using h
            have : k ≠ s.nx := by omega
            simp [hkix] at hHk
            omega
          · omega
        subst hk'
        simp only [if_true, Option.some.injEq] at hHk
        subst hHk
        refine .inr ⟨b, c, _, tb, fr, by simp, hnew, ?_, hfit, hcm, ?_, fun o2 ho2 => ?_⟩
        · simp only [List.size_toArray, List.length_append, List.length_take, List.length_drop, Array.length_toList]
          omega
        · have : (vs.toList.take (l.length * i.size) ++ news ++ vs.toList.drop (l.length * i.size + news.length)).toArray.size = vs.size := by
            simp only [List.size_toArray, List.length_append, List.length_take, List.length_drop, Array.length_toList]
            omega
          rw [this]; exact hfr
        · have hlo : l.length * i.size ≤ o2 := by have := ho2; rw [Nat.add_mul] at this; omega
          have hhi : ¬ (o2 < l.length * i.size + news.length) := by rw [g2, ← Nat.add_mul]; omega
          simp only [Mem.more]
          rw [if_neg (fun h => hhi h.2.2)]
          exact hno o2 hlo
      · intro k j b1 c1' c2' hk hj hHk hHj _ _
        have key : ∀ k, (k ∈ [ix] ∨ (s.nx ≤ k ∧ k < s.nx + 1)) → (if k = s.nx then some (HO.spare i.size (l.length + l2.length)) else if k = ix then none else s.H k) ≠ none → k = s.nx := by
          intro k hk hl
          rcases hk with h | h
          · have hkix : k = ix := by simpa using h
            have : k ≠ s.nx := by omega
            simp [hkix] at hl
            omega
          · omega
        rw [key k hk hHk, key j hj hHj]
      · rintro b1 ⟨k, c1', hk, hl, hrk⟩
        have hk' : k = s.nx := by
          rcases hk with h | h
          · have hkix : k = ix := by simpa using h
            have : k ≠ s.nx := by omega
            simp [hkix] at hl
            omega
          · omega
        subst hk'
        simp at hrk
        left
        rw [← hrk.1]; exact hblkT
      · simp only [Rep]
        refine .inl ⟨b, c, by simp, by simp, by simpa using hfit, ?_⟩
        refine repE_append (n := l.length * i.size) (hE.mono hml) ?_ (sum_cells c1)
        refine repE_of_vals (g3.mono hml) (fun j v hj => ?_)
        have hjl : j < news.length := (List.getElem?_eq_some_iff.1 hj).1
        simp only [Mem.more]
        rw [if_pos ⟨trivial, by omega, by omega⟩]
        rwa [show 0 + l.length * i.size + j - l.length * i.size = j from by omega]
    · exact moved (some ⟨b, 0, none⟩) l.length c vs0 ev rfl f1 f2 f5 (fun w' hw => by
        refine run_firstCells_some (P := P) w' i.size l.length ⟨b, 0, none⟩ _ _ vs0 f1 (fun j u hj => ?_)
        have := f4 j u hj
        unfold World.cell? at this ⊢
        rw [hw]; exact this) (by omega)
  · by_cases hk : l2 = []
    · subst hk
      have hnn : news = [] := List.eq_nil_of_length_eq_zero (by simpa using g2)
      subst hnn
      have hrun := run_append_same (P := P) w t u o.type e d i hte hu hd hi base (a.eval y) (by simpa using g1) (by simpa using g5 w rfl)
      rw [run_call_append ho (by rw [ev]; exact hrun), Oper.upon_value]
      have key : ∀ k, (k ∈ [ix] ∨ (s.nx ≤ k ∧ k < s.nx + 1)) → (if k = s.nx then some (HO.spare i.size (([] : List D).length + ([] : List D).length)) else if k = ix then none else s.H k) ≠ none → k = s.nx := by
        intro k hk hl
        rcases hk with h | h
        · have hkix : k = ix := by simpa using h
          have : k ≠ s.nx := by omega
          simp [hkix] at hl
          omega
        · omega
      refine hK _ m ρ w ⟨Ext.refl _ _ _, Ren.le_refl _, fun i => .inl rfl, ⟨V.mem, ?_, ?_⟩, ?_⟩ ?_
      · intro k ob hk' hHk
        have hk'' := key k hk' (by rw [hHk]; simp)
        subst hk''
        simp only [if_true, Option.some.injEq] at hHk
        subst hHk
        exact .inl ⟨rfl, hf _ (Nat.le_refl _) (by omega)⟩
      · intro k j b c c' hk' _ hl _ hr _
        have hk'' := key k hk' hl
        subst hk''
        rw [hf _ (Nat.le_refl _) (by omega)] at hr; cases hr
      · rintro b ⟨k, c, hk', hl, hr⟩
        have hk'' := key k hk' hl
        subst hk''
        rw [hf _ (Nat.le_refl _) (by omega)] at hr; cases hr
      · simp only [Rep]
        exact .inr ⟨rfl, base, rfl⟩
    · have hpos : 0 < l2.length := List.length_pos_iff.2 hk
      exact moved base 0 0 [] ev rfl (by simp) (by simp [RepL]) (by simp) (fun w' _ => by
        cases base with
        | none => simp [Builtin.firstCells]
        | some ad => simp [Builtin.firstCells, loadCells, loadCellsFrom]) (by simpa using hpos)

/-- Nothing is a row of one's own. -/
theorem own_nil {m : Mem} {ρ : Ren} {a : Option Addr} {ix : Nat} : Rep m ρ (.own ix []) (.slice a 0 0) := by
  simp only [Rep]
  exact .inr ⟨trivial, a, rfl⟩
end Go.Proofs.Ytonlehebfeilmaa.K
