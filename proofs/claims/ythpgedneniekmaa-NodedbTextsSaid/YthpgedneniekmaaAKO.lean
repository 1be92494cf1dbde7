import Derived.Test.YthpgedneniekmaaAKN
/- append onto a row with room that is still written in place. -/
namespace Go.Proofs.Ythpgedneniekmaa.K
open Go Go.RowKit
set_option linter.unusedVariables false
set_option linter.unusedSimpArgs false
set_option linter.unusedSectionVars false
variable {P : Program}
theorem newWD {s : St} {ps : List PV} {m : Mem} {ρ : Ren} {w : World} {vs rest : List Value} (T : List Nat) (V : ValidOn (· ∈ T) m ρ w s.H) (hf : ∀ i, s.nx ≤ i → i < s.nx + 1 → ρ i = none)
    (hv : RepP m ρ ps vs) (h1 : ∀ u ∈ vs, u.oneCell' = true) (t : TypeId) {sz cap : Nat} (hl : vs.length + rest.length = cap * sz) (hm : cap ≤ maxLen) (Hd : HM) (hd : ∀ i, Hd i = none ∨ Hd i = s.H i) :
    Done (· ∈ T) s.nx (s.nx + 1) m ρ w s.H m (fun i => if i = s.nx then some (w.heap.size, cap) else ρ i) (w.drew.alloc (.cells ⟨vs ++ rest⟩ t)) (fun i => if i = s.nx then some (.wsp sz ps) else Hd i) := by
  have hle : ρ.le (fun i => if i = s.nx then some (w.heap.size, cap) else ρ i) := by
    intro i x e
    have : i ≠ s.nx := by intro h; subst h; rw [hf _ (Nat.le_refl _) (by omega)] at e; cases e
    simp [this, e]
  have hold : ∀ k, k < w.heap.size → (w.drew.alloc (.cells ⟨vs ++ rest⟩ t)).heap[k]? = w.heap[k]? := fun k hk => heap_alloc_old w.drew _ hk
  have hnew : (w.drew.alloc (.cells ⟨vs ++ rest⟩ t)).heap[w.heap.size]? = some (.cells ⟨vs ++ rest⟩ t (0, 0)) := heap_alloc_new w.drew _
  have hmem : MemOK m (w.drew.alloc (.cells ⟨vs ++ rest⟩ t)) := V.mem.step fun k ⟨o', v, e⟩ => hold k (V.mem.lt e)
  have dd : ∀ k, Hd k ≠ none → Hd k = s.H k := fun k h => (hd k).resolve_left h
  refine ⟨⟨Mem.le_refl _, by simp, fun b hb _ => hold b hb, rfl, rfl, rfl, fun b o v h => .inl h⟩, hle, fun i => ?_, ⟨hmem, ?_, ?_⟩, ?_⟩
  · by_cases h : i = s.nx
    · exact .inr ⟨by omega, by omega⟩
    · simp [h]
  · intro i o hi hH
    by_cases h : i = s.nx
    · subst h
      simp only [if_true, Option.some.injEq] at hH
      subst hH
      exact .inr ⟨w.heap.size, cap, vs, rest, t, by simp, hnew, hv.mono (Mem.le_refl _) hle, h1, memNone V.mem, hl, hm⟩
    · simp only [h, if_false] at hH
      have hs : s.H i = some o := by rw [← dd i (by rw [hH]; simp)]; exact hH
      have hE := V.entry i o (hi.elim id (by omega)) hs
      exact hE.move (Mem.le_refl _) hle (by simp [h]) (fun b c hr => hold b (hE.ren hr)) (fun _ _ _ _ _ e => e)
  · intro i j b c c' hi hj hHi hHj hri hrj
    have old : ∀ k, (k ∈ T ∨ (s.nx ≤ k ∧ k < s.nx + 1)) → k ≠ s.nx → (if k = s.nx then some (HO.wsp sz ps) else Hd k) ≠ none → ∀ b c, (if k = s.nx then some (w.heap.size, cap) else ρ k) = some (b, c) → k ∈ T ∧ s.H k ≠ none ∧ ρ k = some (b, c) ∧ b < w.heap.size := by
      intro k hk hne hl b c hr
      simp only [hne, if_false] at hl hr
      have hTk : k ∈ T := hk.elim id (by omega)
      rw [dd k hl] at hl
      refine ⟨hTk, hl, hr, ?_⟩
      cases e : s.H k with
      | none => exact absurd e hl
      | some o => exact (V.entry k o hTk e).ren hr
    by_cases h : i = s.nx <;> by_cases h' : j = s.nx
    · rw [h, h']
    · subst h
      have := old j hj h' hHj b c' hrj
      simp at hri
      omega
    · subst h'
      have := old i hi h hHi b c hri
      simp at hrj
      omega
    · have e1 := old i hi h hHi b c hri
      have e2 := old j hj h' hHj b c' hrj
      exact V.apart i j b c c' e1.1 e2.1 e1.2.1 e2.2.1 e1.2.2.1 e2.2.2.1
  · rintro b ⟨i, c, hi, hl, hr⟩
    by_cases h : i = s.nx
    · subst h
      simp at hr
      exact .inr (by omega)
    · simp only [h, if_false] at hl hr
      have hl2 := hl
      rw [dd i hl] at hl2
      exact .inl ⟨i, c, hi.elim id (by omega), hl2, hr⟩
theorem append_room_sem {o : Oper} {s : St} {t u : TypeId} {x y : Operand} {ix n : Nat} {l : List PV} {l2 : List D} (ho : o.op = .call { callee := .builtin .append, args := #[x, y], argTypes := #[t, u] }) {sz by' : Nat} (hrow : rowA P t = some (sz, by')) {d : TypeDesc} (hu : P.underlying u = some d) (hd : notInt d = true)
    (hx : evP s.S x = .room ix n) (hH : s.H ix = some (.wsp sz l)) (hl : l.length = n * sz) (hy : (evP s.S y).more = some l2) (hn : ∀ i, s.nx ≤ i → s.H i = none) (c2 : ∀ z ∈ l2, z.cells.length = sz)
    (hb : (n + l2.length) * by' ≤ 140737488355328) (hm : n + l2.length ≤ maxLen) :
    OpSem P o s (.room s.nx (n + l2.length)) (fun i => if i = s.nx then some (.wsp sz (l ++ rowC l2)) else if i = ix then none else s.H i) (s.nx + 1) [ix] [ix] := by
  have hid : ix < s.nx := by
    rcases Nat.lt_or_ge ix s.nx with h | h
    · exact h
    · rw [hn ix h] at hH; cases hH
  refine ⟨by omega, fun i hi hlt => ?_, fun i hi => ?_, by simp, by simpa using hid, ?_⟩
  · have h1 : i ≠ s.nx := by omega
    have h2 : i ≠ ix := by simpa using hi
    simp [h1, h2]
  · have h1 : i ≠ s.nx := by omega
    have h2 : i ≠ ix := by omega
    simp [h1, h2, hn i (by omega)]
  intro m ρ a w K Q V hf hxs hK
  have h1 := hxs x (by simp [ho, Op.operands, Call.operands])
  have h2 := hxs y (by simp [ho, Op.operands, Call.operands])
  rw [hx] at h1
  obtain ⟨e, i, z, hte, hi, hz, hzs, h0, hsz, hby⟩ := rowA_spec hrow
  obtain ⟨g1, news, g2, g3, g4, g5⟩ := news_of (P := P) V.mem hy h2 c2
  subst hsz
  subst hby
  have hE0 := V.entry ix _ (by simp) hH
  have hRn : RepP m ρ (rowC l2) news := repP_d g3
  unfold Oper.wp
  have moved : ∀ (base : Option Addr) (cap0 : Nat) (olds : List Value), a.eval x = .slice base n cap0 → RepP m ρ l olds → (∀ u ∈ olds, u.oneCell' = true) →
      (∀ w' : World, w'.heap = w.heap → (Builtin.firstCells i.size n (.slice base n cap0)).run P w' = .ok olds.toArray w') → cap0 < n + l2.length →
      Oper.upon P o a K Q ((execOp a.eval o).run P w) := by
    intro base cap0 olds ev q3 q4 q5 hgrow
    have hrun := run_append_grows (P := P) w t u o.type e d i z hte hu hd hi hz base n cap0 l2.length (a.eval y) olds news g1 (q5 w.drew rfl) (g5 w.drew rfl) hgrow (by simp only [maxLen] at hm; omega) (growslice_fits hgrow hb)
    rw [run_call_append ho (by rw [ev]; exact hrun), Oper.upon_value]
    have hge := grownCap_ge w (n + l2.length) cap0 e
    have hcm := grownCap_le_maxLen w (n + l2.length) cap0 e hm
    have hlen : (olds ++ news).length = (n + l2.length) * i.size := by rw [List.length_append, repP_len q3, hl, g2, Nat.add_mul]
    have hzc : (Builtin.zeroCells z.cells (grownCap w (n + l2.length) cap0 e - (n + l2.length))).toList.length = (grownCap w (n + l2.length) cap0 e - (n + l2.length)) * i.size := by
      rw [Array.length_toList, size_zeroCells, hzs]
    have hD := newWD (s := s) (w := w) [ix] V hf (repP_append q3 hRn) (fun v hv => (List.mem_append.1 hv).elim (q4 v) (g4 v)) (rest := (Builtin.zeroCells z.cells (grownCap w (n + l2.length) cap0 e - (n + l2.length))).toList) e (sz := i.size) (cap := grownCap w (n + l2.length) cap0 e) (by
        rw [hlen, hzc, ← Nat.add_mul]
        congr 1
        omega) hcm (fun k => if k = ix then none else s.H k) (fun k => by by_cases h : k = ix <;> simp [h])
    refine hK _ _ _ _ hD ?_
    simp only [Rep]
    exact .inl ⟨w.heap.size, grownCap w (n + l2.length) cap0 e, by simp, rfl, hge⟩
  simp only [Rep] at h1
  rcases h1 with ⟨b, c, hr, ev, hnc⟩ | ⟨rfl, base, ev⟩
  · rcases hE0 with ⟨_, e0⟩ | ⟨b', c', vs, tail, tb, hr', hblk, hvs, hone, hno, hsz, hcm⟩
    · rw [hr] at e0; cases e0
    rw [hr] at hr'; cases hr'
    have hvl : vs.length = n * i.size := by rw [repP_len hvs, hl]
    by_cases hfit : n + l2.length ≤ c
    · have hsz2 : (n + l2.length) * i.size ≤ vs.length + tail.length := by rw [hsz]; exact Nat.mul_le_mul_right _ hfit
      rw [Nat.add_mul] at hsz2
      have hrun := run_append_fits (P := P) w t u o.type e d i hte hu hd hi b n c l2.length (a.eval y) ⟨vs ++ tail⟩ tb (0, 0) hblk (.inl rfl) news g1 (g5 w rfl) g4 hfit (by rw [g2]; simpa using hsz2)
      rw [run_call_append ho (by rw [ev]; exact hrun), Oper.upon_value]
      have hcells : ((vs ++ tail).take (n * i.size) ++ news ++ (vs ++ tail).drop (n * i.size + news.length)) = (vs ++ news) ++ tail.drop news.length := by
        rw [List.take_left' hvl, ← hvl, List.drop_append]
        simp
      generalize hw' : w.setRow b ((vs ++ tail).take (n * i.size) ++ news ++ (vs ++ tail).drop (n * i.size + news.length)).toArray = w'
      have hother : ∀ k, k ≠ b → w'.heap[k]? = w.heap[k]? := fun k hk => by rw [← hw']; exact setRow_other w b k _ hk
      have hnew : w'.heap[b]? = some (.cells ⟨(vs ++ news) ++ tail.drop news.length⟩ tb (0, 0)) := by rw [← hw', hcells]; exact setRow_heap w b ⟨vs ++ tail⟩ _ tb (0, 0) hblk
      have hsize : w'.heap.size = w.heap.size := by rw [← hw']; simp [World.setRow]
      have hmem : MemOK m w' := V.mem.step fun b2 ⟨o2, v2, h⟩ => hother b2 (fun e' => by rw [e', hno] at h; cases h)
      have hle : ρ.le (fun k => if k = s.nx then some (b, c) else ρ k) := by
        intro k x' e'
        have : k ≠ s.nx := by intro h; subst h; rw [hf _ (Nat.le_refl _) (by omega)] at e'; cases e'
        simp [this, e']
      have hblkT : Blk ρ s.H (fun k => k ∈ [ix]) b := ⟨ix, c, by simp, by rw [hH]; simp, hr⟩
      have key : ∀ k, (k ∈ [ix] ∨ (s.nx ≤ k ∧ k < s.nx + 1)) → (if k = s.nx then some (HO.wsp i.size (l ++ rowC l2)) else if k = ix then none else s.H k) ≠ none → k = s.nx := by
        intro k hk hl
        rcases hk with h | h
        · have hkix : k = ix := by simpa using h
          have : k ≠ s.nx := by omega
          simp [hkix] at hl
          omega
        · omega
      refine hK _ m (fun k => if k = s.nx then some (b, c) else ρ k) w' ⟨⟨Mem.le_refl _, by omega, fun k hk hnb => hother k (fun e' => hnb (by rw [e']; exact hblkT)), ?_, ?_, ?_, fun b2 o2 v2 h => .inl h⟩, hle, fun k => ?_, ⟨hmem, ?_, ?_⟩, ?_⟩ ?_
      · rw [← hw']; rfl
      · rw [← hw']; rfl
      · rw [← hw']; rfl
      · by_cases h : k = s.nx
        · exact .inr ⟨by omega, by omega⟩
        · simp [h]
      · intro k ob hk hHk
        have hk' := key k hk (by rw [hHk]; simp)
        subst hk'
        simp only [if_true, Option.some.injEq] at hHk
        subst hHk
        refine .inr ⟨b, c, vs ++ news, tail.drop news.length, tb, by simp, hnew, (repP_append hvs hRn).mono (Mem.le_refl _) hle, fun v hv => (List.mem_append.1 hv).elim (hone v) (g4 v), hno, ?_, hcm⟩
        rw [List.length_append, List.length_drop, g2]
        omega
      · intro k j b1 c1' c2' hk hj hHk hHj _ _
        rw [key k hk hHk, key j hj hHj]
      · rintro b1 ⟨k, c1', hk, hl', hrk⟩
        have hk' := key k hk hl'
        subst hk'
        simp at hrk
        left
        rw [← hrk.1]; exact hblkT
      · simp only [Rep]
        exact .inl ⟨b, c, by simp, rfl, hfit⟩
    · exact moved (some ⟨b, 0, none⟩) c vs ev hvs hone (fun w' hw => by
        refine run_firstCells_some (P := P) w' i.size n ⟨b, 0, none⟩ _ _ vs hvl (fun j u hj => ?_)
        have hc := cell_of_block (w := w) (vs := vs ++ tail) hblk j
        have hj' : j < vs.length := (List.getElem?_eq_some_iff.1 hj).1
        unfold World.cell? at hc ⊢
        rw [hw, addr_add, Nat.zero_add, hc, List.getElem?_append_left hj']; exact hj) (by omega)
  · have hl0 : l = [] := List.eq_nil_of_length_eq_zero (by rw [hl]; simp)
    subst hl0
    by_cases hkk : l2 = []
    · subst hkk
      have hnn : news = [] := List.eq_nil_of_length_eq_zero (by simpa using g2)
      subst hnn
      have hrun := run_append_same (P := P) w t u o.type e d i hte hu hd hi base (a.eval y) (by simpa using g1) (by simpa using g5 w rfl)
      rw [run_call_append ho (by rw [ev]; exact hrun), Oper.upon_value]
      have key : ∀ k, (k ∈ [ix] ∨ (s.nx ≤ k ∧ k < s.nx + 1)) → (if k = s.nx then some (HO.wsp i.size ([] ++ rowC [])) else if k = ix then none else s.H k) ≠ none → k = s.nx := by
        intro k hk hl
        rcases hk with h | h
        · have hkix : k = ix := by simpa using h
          have : k ≠ s.nx := by omega
          simp [hkix] at hl
          omega
        · omega
      refine hK _ m ρ w ⟨Ext.refl _ _ _, Ren.le_refl _, fun i => .inl rfl, ⟨V.mem, ?_, ?_⟩, ?_⟩ ?_
      · intro k ob hk hHk
        have hk' := key k hk (by rw [hHk]; simp)
        subst hk'
        simp only [if_true, Option.some.injEq] at hHk
        subst hHk
        exact .inl ⟨rfl, hf _ (Nat.le_refl _) (Nat.lt_succ_self _)⟩
      · intro k j b1 c1' c2' hk hj hHk hHj _ _
        rw [key k hk hHk, key j hj hHj]
      · rintro b1 ⟨k, c1', hk, hl', hrk⟩
        have hk' := key k hk hl'
        subst hk'
        rw [hf _ (Nat.le_refl _) (Nat.lt_succ_self _)] at hrk; cases hrk
      · simp only [Rep]
        exact .inr ⟨rfl, base, rfl⟩
    · have hpos : 0 < l2.length := List.length_pos_iff.2 hkk
      exact moved base 0 [] ev (by simp [RepP]) (by simp) (fun w' hw => by
        cases base with
        | none => simp [Builtin.firstCells]
        | some ad => simp [Builtin.firstCells, loadCells, loadCellsFrom]) (by omega)
section
variable {o : Oper} {S : Nat → PV} {H : HM} {nx : Nat} {df : List (Nat × List PV)} {k : PV → HM → Nat → List Nat → List Nat → Prop}
theorem so_appZW {t u : TypeId} {kd : IntKind} {x y : Operand} {sz by' : Nat} {n : Int} (ho : o.op = .call { callee := .builtin .append, args := #[x, y], argTypes := #[t, u] }) (ht : rowA P t = some (sz, by')) (hu : P.underlying u = some (.int kd))
    (hx : evP S x = .full []) (hy : evP S y = .d (.val (.int .i64 n))) (h : 0 < n ∧ n.toNat * by' ≤ 140737488355328) (hb : 0 < by') (hk : k (.room nx n.toNat) (putH H nx (some (.wsp sz []))) (nx + 1) [] []) : stepO P o ⟨S, H, nx, df⟩ k := by
  intro hn
  refine ⟨_, _, _, _, _, ⟨Nat.le_succ _, fun i _ hi => ?_, fun i hi => ?_, by simp, by simp, ?_⟩, hk⟩
  · have : i ≠ nx := Nat.ne_of_lt hi
    simp [putH, this]
  · have hi : nx + 1 ≤ i := hi
    have : i ≠ nx := by omega
    simp only [putH, this, if_false]; exact hn i (show nx ≤ i by omega)
  intro m ρ a w K Q V hf hxs hK
  have h1 := hxs x (by simp [ho, Op.operands, Call.operands])
  have h2 := hxs y (by simp [ho, Op.operands, Call.operands])
  rw [show evP ({ S := S, H := H, nx := nx, df := df } : St).S x = _ from hx] at h1
  rw [show evP ({ S := S, H := H, nx := nx, df := df } : St).S y = _ from hy] at h2
  simp only [Rep, RepD, List.length_nil] at h1 h2
  obtain ⟨ad, ev, _⟩ := h1
  obtain ⟨e, i, z, hte, hi, hz, hzs, h0, hsz, hby⟩ := rowA_spec ht
  subst hsz; subst hby
  have en : n = (n.toNat : Int) := by omega
  generalize hN : n.toNat = N at *
  have hN0 : 0 < N := by omega
  have hNb : N * 1 ≤ N * i.bytes := Nat.mul_le_mul_left _ hb
  have hfit : Builtin.nextslicecap N 0 * i.bytes ≤ 281474976710656 := growslice_fits (by omega) h.2
  have hrun := run_append_zeros (P := P) w t u o.type e kd i z hte hu hi hz h0 ad N hN0 (by omega) (by omega) hfit
  rw [← en, ← h2, ← ev] at hrun
  have hgo := hrun
  unfold Oper.wp
  rw [run_call_append ho hgo, Oper.upon_value]
  have hge := grownCap_ge w N 0 e
  have hcm := grownCap_le_maxLen w N 0 e (by rw [maxLen_val]; omega)
  have hD := newWD (s := ⟨S, H, nx, df⟩) (w := w) [] V hf (ps := []) (vs := []) (by simp [RepP]) (by simp) (rest := (Builtin.zeroCells z.cells N).toList ++ (Builtin.zeroCells z.cells (grownCap w N 0 e - N)).toList) e (sz := i.size) (cap := grownCap w N 0 e)
    (by
      simp only [List.length_nil, List.length_append, Array.length_toList, size_zeroCells, hzs, Nat.zero_add]
      rw [← Nat.add_mul]; congr 1; omega) hcm H (fun i => .inr rfl)
  refine hK _ _ _ _ hD ?_
  simp only [Rep]
  exact .inl ⟨w.heap.size, grownCap w N 0 e, by simp, rfl, hge⟩
theorem so_roomW {t : TypeId} {sz by' : Nat} {ag : Bool} {x hi : Operand} {id n : Nat} (ho : o.op = .slice t x none (some hi) none) (hs : slcA P t = some (sz, by', ag)) (hx : evP S x = .room id n) (hh : evP S hi = .d (.val (.int .i64 0))) (hk : k (.room id 0) H nx [] []) : stepO P o ⟨S, H, nx, df⟩ k := by
  refine so_pure (v := .room id 0) ?_ Imp.refl hk
  refine PureRun.still fun m ρ a w hm hx' => ?_
  have e1 := hx' x (by simp [ho, Op.operands])
  have e3 : ∀ y, some hi = some y → Rep m ρ (evP S y) (a.eval y) := fun y hy => hx' y (by simp [ho, hy, Op.operands])
  obtain ⟨dst, op', type, pos, after, guard⟩ := o
  simp only at ho
  subst ho
  rw [hx] at e1
  simp only [Rep] at e1
  rcases e1 with ⟨b, c, hr, ev, hc⟩ | ⟨rfl, ad, ev⟩
  · obtain ⟨et, inf, hu, ht, hi', _, _⟩ := slcA_spec hs
    have hsz := (tyA_spec ht w).2
    have hb := run_bounds (P := P) (w := w) (S := S) (isSl := true) (len := n) (cap := c) (lo := none) (hi := some hi) (l := 0) (h := 0) rfl (by simp [bnd, hh]) (by simp) e3 (by omega) (by omega) (by omega) hc
    refine ⟨.slice (some (if c = 0 then ⟨b, 0, none⟩ else (⟨b, 0, none⟩ : Addr).add (0 * sz))) 0 c, ?_, ?_⟩
    · have e : (if c = 0 then some (⟨b, 0, none⟩ : Addr) else some ((⟨b, 0, none⟩ : Addr).add 0)) = some ⟨b, 0, none⟩ := by split <;> simp [addr_add]
      have e' : (if c = 0 then (⟨b, 0, none⟩ : Addr) else (⟨b, 0, none⟩ : Addr).add 0) = ⟨b, 0, none⟩ := by split <;> simp [addr_add]
      simp only [Option.map_none, Option.map_some] at hb
      simp [execOp, Instr.sliceAt, run_underlying hu, Instr.slice, ev, hb, hsz, e, e', addr_add]
    · have e' : (if c = 0 then (⟨b, 0, none⟩ : Addr) else (⟨b, 0, none⟩ : Addr).add (0 * sz)) = ⟨b, 0, none⟩ := by split <;> simp [addr_add]
      rw [e']
      simp only [Rep]; exact .inl ⟨b, c, hr, rfl, Nat.zero_le _⟩
  · obtain ⟨et, inf, hu, ht, hi', _, _⟩ := slcA_spec hs
    have hsz := (tyA_spec ht w).2
    have hb := run_bounds (P := P) (w := w) (S := S) (isSl := true) (len := 0) (cap := 0) (lo := none) (hi := some hi) (l := 0) (h := 0) rfl (by simp [bnd, hh]) (by simp) e3 (by omega) (by omega) (by omega) (Nat.le_refl _)
    simp only [Option.map_none, Option.map_some] at hb
    refine ⟨.slice ad 0 0, ?_, ?_⟩
    · simp [execOp, Instr.sliceAt, run_underlying hu, Instr.slice, ev, hb, hsz]
    · simp only [Rep]; exact .inr ⟨trivial, ad, rfl⟩
theorem so_appW {α : Type} {en : α → D} {c : α → List D} {sz by' id n : Nat} {t u : TypeId} {d : TypeDesc} {x y : Operand} {l l2 : List α} (ho : o.op = .call { callee := .builtin .append, args := #[x, y], argTypes := #[t, u] }) (ht : rowA P t = some (sz, by')) (hu : P.underlying u = some d) (hd : notInt d = true) (hl : Lay en c sz)
    (hx : evP S x = .room id n) (hH : H id = some (.wsp sz (rowC (l.map en)))) (hn : n = l.length) (hy : (evP S y).more = some (l2.map en)) (hb : (l.length + l2.length) * by' ≤ 140737488355328) (hb0 : 0 < by')
    (hk : k (.room nx (l ++ l2).length) (fun i => if i = nx then some (.wsp sz (rowC ((l ++ l2).map en))) else if i = id then none else H i) (nx + 1) [id] [id]) : stepO P o ⟨S, H, nx, df⟩ k := by
  intro h0
  subst hn
  have hb1 : (l.length + l2.length) * 1 ≤ (l.length + l2.length) * by' := Nat.mul_le_mul_left _ hb0
  have h := append_room_sem (P := P) (s := ⟨S, H, nx, df⟩) ho ht hu hd hx hH (rowC_len hl l) hy h0 (hl.all l2) (by rw [List.length_map]; exact hb) (by rw [List.length_map, maxLen_val]; omega)
  rw [List.length_map, ← rowC_app, ← List.map_append, ← List.length_append] at h
  exact ⟨_, _, _, _, _, h, hk⟩
end
section
variable {N b : Nat} {s : St}
theorem View.bufRW (t sz : Nat) (hs : s.S t = .full []) (hb : b ≤ s.nx) : View N b s ⟨putS s.S (some t) (.room s.nx 0), putH s.H s.nx (some (.wsp sz [])), s.nx + 1, s.df⟩ := by
  refine View.of (Nat.le_trans hb (Nat.le_succ _)) fun m ρ a w hI => ?_
  have hslot := hI.slots t
  rw [hs] at hslot
  simp only [Rep] at hslot
  obtain ⟨ad, ev, _⟩ := hslot
  have nn : ∀ k, (∃ b c, ρ k = some (b, c)) → k ≠ s.nx := by
    rintro k ⟨b, c, h⟩ e
    subst e
    rw [hI.rnil _ (Nat.le_refl _)] at h; cases h
  have hI' : Inv N ⟨putS s.S (some t) (.room s.nx 0), putH s.H s.nx (some (.wsp sz [])), s.nx + 1, s.df⟩ m ρ a w := by
    refine ⟨hI.size, hI.defers, fun i => ?_, ⟨hI.valid.mem, fun i o _ hH => ?_, fun i j b c c' _ _ hi hj hri hrj => ?_⟩, fun i hi => ?_, fun i hi => hI.rnil i (by have : s.nx + 1 ≤ i := hi; omega)⟩
    · simp only [putS_at]
      by_cases e : i = t
      · subst e
        simp only [if_true, Rep]
        exact .inr ⟨trivial, ad, ev⟩
      · simp only [e, if_false]; exact hI.slots i
    · simp only [putH_at] at hH
      by_cases e : i = s.nx
      · subst e
        simp only [if_true, Option.some.injEq] at hH
        subst hH
        exact .inl ⟨rfl, hI.rnil _ (Nat.le_refl _)⟩
      · simp only [e, if_false] at hH; exact hI.valid.entry i o trivial hH
    · have e1 := nn i ⟨b, c, hri⟩
      have e2 := nn j ⟨b, c', hrj⟩
      simp only [putH_at, e1, if_false] at hi
      simp only [putH_at, e2, if_false] at hj
      exact hI.valid.apart i j b c c' trivial trivial hi hj hri hrj
    · have h1 : s.nx + 1 ≤ i := hi
      have : i ≠ s.nx := by omega
      simp only [putH_at, this, if_false]
      exact hI.hnil i (by omega)
  refine ⟨ρ, hI', ?_, fun _ _ => rfl⟩
  rintro b' ⟨i, c, _, hl, hri⟩
  have := nn i ⟨b', c, hri⟩
  simp only [putH_at, this, if_false] at hl
  exact ⟨i, c, trivial, hl, hri⟩
theorem View.roomV {sz n : Nat} {l : List PV} (id t : Nat) (hH : s.H id = some (.wsp sz l)) (hs : s.S t = .room id n) (hb : b ≤ s.nx) : View N b s ⟨putS s.S (some t) (.vrow id 0 n), putH s.H id (some (.var l)), s.nx, s.df⟩ := by
  refine View.of hb fun m ρ a w hI => ?_
  have hslot := hI.slots t
  rw [hs] at hslot
  simp only [Rep] at hslot
  have lv : ∀ i, putH s.H id (some (HO.var l)) i ≠ none → s.H i ≠ none := by
    intro i h
    by_cases e : i = id
    · subst e; rw [hH]; simp
    · simpa only [putH_at, e, if_false] using h
  have hI' : Inv N ⟨putS s.S (some t) (.vrow id 0 n), putH s.H id (some (.var l)), s.nx, s.df⟩ m ρ a w := by
    refine ⟨hI.size, hI.defers, fun i => ?_, ⟨hI.valid.mem, fun i o _ ho => ?_, fun i j b c c' _ _ hi hj hri hrj => hI.valid.apart i j b c c' trivial trivial (lv i hi) (lv j hj) hri hrj⟩, fun i hi => ?_, hI.rnil⟩
    · simp only [putS_at]
      by_cases e : i = t
      · subst e
        simp only [if_true, Rep]
        rcases hslot with ⟨b, c, hr, ev, hc⟩ | ⟨h0, ad, ev⟩
        · exact .inl ⟨b, c, c, hr, ev, hc⟩
        · exact .inr ⟨h0, ad, 0, ev⟩
      · simp only [e, if_false]; exact hI.slots i
    · simp only [putH_at] at ho
      by_cases e : i = id
      · subst e
        simp only [if_true, Option.some.injEq] at ho
        subst ho
        rcases hI.valid.entry i _ trivial hH with ⟨e0, e1⟩ | ⟨b, c, vs, tail, tb, e1, e2, e3, e4, e5, _⟩
        · exact .inl ⟨e0, e1⟩
        · exact .inr ⟨b, c, vs, tail, tb, e1, e2, e3, e4, e5⟩
      · simp only [e, if_false] at ho; exact hI.valid.entry i o trivial ho
    · have : i ≠ id := by
        intro e
        have h1 := hI.hnil i hi
        rw [e, hH] at h1; cases h1
      simp only [putH_at, this, if_false]
      exact hI.hnil i hi
  refine ⟨ρ, hI', ?_, fun _ _ => rfl⟩
  rintro b' ⟨i, c, _, hl, hri⟩
  exact ⟨i, c, trivial, lv i hl, hri⟩
end
end Go.Proofs.Ythpgedneniekmaa.K
