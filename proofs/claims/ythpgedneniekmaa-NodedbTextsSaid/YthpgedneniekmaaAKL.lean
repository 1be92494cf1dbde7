import Derived.Test.YthpgedneniekmaaAKK
/- Rows of one's own that are written in place. -/
namespace Go.Proofs.Ythpgedneniekmaa.K
open Go Go.RowKit
set_option linter.unusedVariables false
set_option linter.unusedSimpArgs false
set_option linter.unusedSectionVars false
variable {P : Program}
def rowC (l : List D) : List PV := (l.flatMap D.cells).map PV.d
theorem rowC_app (a b : List D) : rowC (a ++ b) = rowC a ++ rowC b := by simp [rowC]
section
variable {α : Type} {en : α → D} {c : α → List D} {sz : Nat}
theorem rowC_len (hl : Lay en c sz) : ∀ l : List α, (rowC (l.map en)).length = l.length * sz
  | [] => by simp [rowC]
  | x :: r => by
    have := rowC_len hl r
    have e : rowC ((x :: r).map en) = (c x).map PV.d ++ rowC (r.map en) := by simp [rowC, hl.cells]
    rw [e, List.length_append, List.length_map, hl.len, this, List.length_cons, Nat.succ_mul, Nat.add_comm]
theorem rowC_split [Inhabited α] (hl : Lay en c sz) (l : List α) {i : Nat} (h : i < l.length) : rowC (l.map en) = rowC ((l.take i).map en) ++ ((c (idx l (i : Int))).map PV.d ++ rowC ((l.drop (i + 1)).map en)) := by
  have e : l = l.take i ++ (l[i] :: l.drop (i + 1)) := by rw [← List.drop_eq_getElem_cons h, List.take_append_drop]
  have e2 : idx l (i : Int) = l[i] := by simp [idx, List.getD_eq_getElem?_getD, List.getElem?_eq_getElem h]
  conv => lhs; rw [e]
  rw [e2, List.map_append, rowC_app, List.map_cons]
  congr 1
  simp [rowC, hl.cells]
theorem ldv_rowA [Inhabited α] (hl : Lay en c sz) (hp : 0 < sz) {l : List α} {i : Int} (h : 0 ≤ i ∧ i < (l.length : Int)) : LdV true sz (0 + i.toNat * sz) (rowC (l.map en)) (.agg ((c (idx l i)).map .d)) := by
  obtain ⟨n, rfl⟩ : ∃ n : Nat, i = (n : Int) := ⟨i.toNat, by omega⟩
  have hn : n < l.length := by omega
  rw [rowC_split hl l hn, Nat.zero_add, Int.toNat_natCast]
  have h1 : (rowC ((l.take n).map en)).length = n * sz := by rw [rowC_len hl, List.length_take, Nat.min_eq_left (by omega)]
  have := ldv_in (n * sz) 0 h1 (ldv_left (R := rowC ((l.drop (n + 1)).map en)) (ldv_dd (c := c (idx l (n : Int))) (hl.len _) hp))
  simpa using this
theorem ldv_rowO [Inhabited α] (hl : Lay en (fun x => [en x]) 1) {l : List α} {i : Int} (h : 0 ≤ i ∧ i < (l.length : Int)) : LdV false 1 (0 + i.toNat * 1) (rowC (l.map en)) (.d (en (idx l i))) := by
  obtain ⟨n, rfl⟩ : ∃ n : Nat, i = (n : Int) := ⟨i.toNat, by omega⟩
  have hn : n < l.length := by omega
  rw [rowC_split hl l hn, Nat.zero_add, Int.toNat_natCast]
  have h1 : (rowC ((l.take n).map en)).length = n * 1 := by rw [rowC_len hl, List.length_take, Nat.min_eq_left (by omega)]
  have := ldv_in (n * 1) 0 h1 (ldv_left (R := rowC ((l.drop (n + 1)).map en)) (show LdV false 1 0 ([en (idx l (n : Int))].map PV.d) (.d (en (idx l (n : Int)))) from ⟨⟨by simp, by simp⟩, rfl⟩))
  simpa using this
theorem spl_row [Inhabited α] (hl : Lay en c sz) {l : List α} {i : Int} {x : α} (h : 0 ≤ i ∧ i < (l.length : Int)) : spl (rowC (l.map en)) (0 + i.toNat * sz) ((c x).map .d) = rowC ((l.set i.toNat x).map en) := by
  obtain ⟨n, rfl⟩ : ∃ n : Nat, i = (n : Int) := ⟨i.toNat, by omega⟩
  have hn : n < l.length := by omega
  have hn2 : n < (l.set n x).length := by rw [List.length_set]; exact hn
  rw [Int.toNat_natCast, rowC_split hl l hn, rowC_split hl (l.set n x) hn2, Nat.zero_add]
  have e1 : (l.set n x).take n = l.take n := by rw [List.take_set_of_le (Nat.le_refl _)]
  have e2 : (l.set n x).drop (n + 1) = l.drop (n + 1) := by rw [List.drop_set_of_lt (by omega)]
  have e3 : idx (l.set n x) (n : Int) = x := by simp [idx, List.getD_eq_getElem?_getD, hn]
  rw [e1, e2, e3]
  have h1 : (rowC ((l.take n).map en)).length = n * sz := by rw [rowC_len hl, List.length_take, Nat.min_eq_left (by omega)]
  have := spl_in (n * sz) 0 h1 (spl_seg (A := (c (idx l (n : Int))).map PV.d) (R := rowC ((l.drop (n + 1)).map en)) (c := (c x).map PV.d) (m := sz) (by rw [List.length_map, hl.len]) (by rw [List.length_map, hl.len]))
  simpa using this
theorem le_row (hl : Lay en c sz) {l : List α} {i : Int} (h : 0 ≤ i ∧ i < (l.length : Int)) : 0 + i.toNat * sz + sz ≤ (rowC (l.map en)).length := by
  rw [rowC_len hl, Nat.zero_add, ← Nat.succ_mul]
  exact Nat.mul_le_mul_right _ (by omega)
theorem rowC_takeC (hl : Lay en c sz) (l : List α) (n : Nat) (h : n ≤ l.length) : (rowC (l.map en)).take (0 + n * sz) = rowC ((l.take n).map en) := by
  have h1 : (rowC ((l.take n).map en)).length = 0 + n * sz := by rw [rowC_len hl, List.length_take, Nat.min_eq_left h, Nat.zero_add]
  conv => lhs; rw [← List.take_append_drop n l]
  rw [List.map_append, rowC_app, List.take_left' h1]
end
section
variable {o : Oper} {S : Nat → PV} {H : HM} {nx : Nat} {df : List (Nat × List PV)} {k : PV → HM → Nat → List Nat → List Nat → Prop}
theorem so_lenR {t e : TypeId} {x : Operand} {id off n : Nat} (ho : o.op = .call { callee := .builtin .len, args := #[x], argTypes := #[t] }) (ht : P.underlying t = some (.slice e)) (hx : evP S x = .vrow id off n) (hk : k (.d (.val (.int .i64 (n : Int)))) H nx [] []) : stepO P o ⟨S, H, nx, df⟩ k := by
  refine so_pure (v := .d (.val (.int .i64 (n : Int)))) ?_ Imp.refl hk
  refine PureRun.still fun m ρ a w hm hx' => ?_
  have e1 := hx' x (by simp [ho, Op.operands, Call.operands])
  obtain ⟨dst, op', type, pos, after, guard⟩ := o
  simp only at ho
  subst ho
  rw [hx] at e1
  simp only [Rep] at e1
  refine ⟨.int .i64 n, ?_, by simp [Rep, RepD]⟩
  rcases e1 with ⟨b, c, kk, _, ev, _⟩ | ⟨h0, ad, kk, ev⟩
  · simp [execOp, resolve, invoke, builtin, Builtin.len_, run_underlying ht, ev, goInt]
  · subst h0
    simp [execOp, resolve, invoke, builtin, Builtin.len_, run_underlying ht, ev, goInt]
theorem so_slR {t : TypeId} {x : Operand} {lo hi : Option Operand} {id off n sz by' : Nat} {ag : Bool} {p q : Int} (ho : o.op = .slice t x lo hi none) (hs : slcA P t = some (sz, by', ag)) (hx : evP S x = .vrow id off n)
    (hl : bnd 0 (lo.map (evP S)) = some p) (hh : bnd n (hi.map (evP S)) = some q) (h : 0 ≤ p ∧ p ≤ q ∧ q ≤ (n : Int)) (hk : k (.vrow id (off + p.toNat * sz) (q - p).toNat) H nx [] []) : stepO P o ⟨S, H, nx, df⟩ k := by
  refine so_pure (v := .vrow id (off + p.toNat * sz) (q - p).toNat) ?_ Imp.refl hk
  obtain ⟨h0, h1, h2⟩ := h
  refine PureRun.still fun m ρ a w hm hx' => ?_
  have e1 := hx' x (by simp [ho, Op.operands])
  have e2 : ∀ y, lo = some y → Rep m ρ (evP S y) (a.eval y) := fun y hy => hx' y (by simp [ho, hy, Op.operands])
  have e3 : ∀ y, hi = some y → Rep m ρ (evP S y) (a.eval y) := fun y hy => hx' y (by simp [ho, hy, Op.operands])
  obtain ⟨dst, op', type, pos, after, guard⟩ := o
  simp only at ho
  subst ho
  rw [hx] at e1
  simp only [Rep] at e1
  obtain ⟨et, inf, hu, ht, hi', _, _⟩ := slcA_spec hs
  have hsz := (tyA_spec ht w).2
  have e : (q - p).toNat = q.toNat - p.toNat := by omega
  rw [e]
  have gen : ∀ (ad : Option Addr) (kk : Nat), a.eval x = .slice ad n kk → n ≤ kk → (execOp a.eval ⟨dst, .slice t x lo hi none, type, pos, after, guard⟩).run P w = .ok (.value (.slice (if kk = p.toNat then ad else ad.map (·.add (p.toNat * sz))) (q.toNat - p.toNat) (kk - p.toNat))) w := by
    intro ad kk ev hk
    have hb := run_bounds (P := P) (w := w) (isSl := true) (cap := kk) hl hh e2 e3 h0 h1 h2 hk
    simp [execOp, Instr.sliceAt, run_underlying hu, Instr.slice, ev, hb, hsz]
  rcases e1 with ⟨b, c, kk, hr, ev, hkk⟩ | ⟨hn0, ad, kk, ev⟩
  · refine ⟨_, gen _ _ ev hkk, ?_⟩
    simp only [Rep]
    by_cases e : kk = p.toNat
    · exact .inr ⟨by omega, _, _, by rw [show q.toNat - p.toNat = 0 by omega]⟩
    · exact .inl ⟨b, c, kk - p.toNat, hr, by simp [e, addr_add], by omega⟩
  · subst hn0
    refine ⟨_, gen ad kk ev (Nat.zero_le _), ?_⟩
    simp only [Rep]
    exact .inr ⟨by omega, _, _, by rw [show q.toNat - p.toNat = 0 by omega]⟩
def rowZ (P : Program) (t : TypeId) : Bool := match P.underlying t with
  | some (.slice e) => (match zeroA P e with | some l => l.all Value.oneCell' | none => false)
  | _ => false
theorem so_clear {t : TypeId} {x : Operand} {id off n sz by' : Nat} {l l' : List PV} (ho : o.op = .call { callee := .builtin .clear, args := #[x], argTypes := #[t] }) (ht : rowA P t = some (sz, by')) (hzz : rowZ P t = true) (hx : evP S x = .vrow id off n) (hH : H id = some (.var l))
    (hf : off + n * sz ≤ l.length) (hl' : l.take off = l') (hk : k .junk (putH H id (some (.var l'))) nx [id] [id]) : stepO P o ⟨S, H, nx, df⟩ k := by
  intro hnil
  subst hl'
  have hid : id < nx := idLt (s := ⟨S, H, nx, df⟩) hnil hH
  refine ⟨_, _, _, _, _, ⟨Nat.le_refl _, fun i hi _ => by simp at hi; simp [putH, hi], fun i hi => by
    have : i ≠ id := by have : nx ≤ i := hi; omega
    simp [putH, this]; exact hnil i hi, by simp, by simpa using hid, ?_⟩, hk⟩
  intro m ρ a w K Q V hf' hxs hK
  have h1 := hxs x (by simp [ho, Op.operands, Call.operands])
  rw [show evP ({ S := S, H := H, nx := nx, df := df } : St).S x = _ from hx] at h1
  simp only [Rep] at h1
  obtain ⟨e, i, z, hte, hi, hz, hzs, h0, hsz, hby⟩ := rowA_spec ht
  have hE := V.entry id _ (by simp) hH
  have hrun0 : ∀ (base : Option Addr) (kk : Nat) (w' : World), a.eval x = .slice base n kk → (match base with | some ad => (if n = 0 then w' = w else (storeCells ad (Builtin.zeroCells z.cells n).toList 0).run P w = .ok () w') | none => w' = w) →
      (execOp a.eval o).run P w = .ok (.value (.tuple #[])) w' := by
    intro base kk w' ev hst
    have hc : (Builtin.clear_ #[t] o.type #[a.eval x]).run P w = .ok (.tuple #[]) w' := by
      rw [ev]
      cases base with
      | none => subst hst; simp [Builtin.clear_, run_underlying hte]
      | some ad =>
        simp only at hst
        cases n with
        | zero => simp only [if_true] at hst; subst hst; simp [Builtin.clear_, run_underlying hte]
        | succ n =>
          simp only [Nat.succ_ne_zero, if_false] at hst
          simp [Builtin.clear_, run_underlying hte, zeroValue, typeInfo, hi, hz, hst]
    obtain ⟨dst, op', type, pos, after, guard⟩ := o
    simp only at ho hc
    subst ho
    simp [execOp, resolve, invoke, builtin, hc]
  have same : (execOp a.eval o).run P w = .ok (.value (.tuple #[])) w → o.wp P a w K Q := by
    intro hrun
    unfold Oper.wp
    rw [hrun, Oper.upon_value]
    refine hK _ m ρ w ⟨Ext.refl _ _ _, Ren.le_refl _, fun i => .inl rfl, ⟨V.mem, ?_, ?_⟩, ?_⟩ (by simp [Rep])
    · intro j ob hj hHj
      have hj' : j = id := by simpa using hj.elim (fun h => h) (by omega)
      subst hj'
      simp only [putH, if_true, Option.some.injEq] at hHj
      subst hHj
      rcases hE with ⟨e0, e1⟩ | ⟨b', c', vs, tail, tb, hr', hb, hrl, hone, hno⟩
      · exact .inl ⟨by rw [e0]; simp, e1⟩
      · refine .inr ⟨b', c', vs.take off, vs.drop off ++ tail, tb, hr', by rw [← List.append_assoc, List.take_append_drop]; exact hb, repP_take _ hrl, fun u hu => hone u (List.mem_of_mem_take hu), hno⟩
    · intro j j' b1 c1' c2' hj hj' _ _ _ _
      have e1 : j = id := by simpa using hj.elim (fun h => h) (by omega)
      have e2 : j' = id := by simpa using hj'.elim (fun h => h) (by omega)
      rw [e1, e2]
    · rintro b1 ⟨j, c1', hj, _, hri⟩
      have hj' : j = id := by simpa using hj.elim (fun h => h) (by omega)
      subst hj'
      exact .inl ⟨j, c1', by simp, by rw [show ({ S := S, H := H, nx := nx, df := df } : St).H j = _ from hH]; simp, hri⟩
  rcases h1 with ⟨b, c, kk, hr, ev, _⟩ | ⟨h00, ad, kk, ev⟩
  · by_cases hn0 : n = 0
    · exact same (hrun0 _ _ w ev (by simp [hn0]))
    · rcases hE with ⟨_, hr'⟩ | ⟨b', c', vs, tail, tb, hr', hb, hrl, hone, hno⟩
      · rw [hr] at hr'; cases hr'
      rw [hr] at hr'; cases hr'
      have hvl := repP_len hrl
      have hzl : (Builtin.zeroCells z.cells n).toList.length = n * sz := by rw [Array.length_toList, size_zeroCells, hzs]
      have hz1 : ∀ v ∈ (Builtin.zeroCells z.cells n).toList, v.oneCell' = true := by
        unfold rowZ at hzz
        simp only [hte, zeroA, hi, hz, Option.bind_some, Option.map_some, List.all_eq_true] at hzz
        intro v hv
        simp only [Builtin.zeroCells, Array.toList_map, List.mem_map] at hv
        obtain ⟨j, _, rfl⟩ := hv
        have hlt : j % z.cells.size < z.cells.size := Nat.mod_lt _ (by omega)
        rw [getElem!_pos z.cells _ hlt]
        exact hzz _ (Array.getElem_mem_toList hlt)
      have hst := run_storeCells_at P b off tb (Builtin.zeroCells z.cells n).toList 0 ⟨vs ++ tail⟩ w hb (by simp only [List.size_toArray, List.length_append, Nat.add_zero]; rw [hzl]; omega) hz1
      simp only [Nat.add_zero] at hst
      let w' := w.setRow b ((vs ++ tail).take off ++ (Builtin.zeroCells z.cells n).toList ++ (vs ++ tail).drop (off + (Builtin.zeroCells z.cells n).toList.length)).toArray
      unfold Oper.wp
      rw [hrun0 _ _ w' ev (by simp only [hn0, if_false]; exact hst), Oper.upon_value]
      have hother : ∀ k, k ≠ b → w'.heap[k]? = w.heap[k]? := fun k hk => setRow_other w b k _ hk
      have hblk : w'.heap[b]? = some (.cells ⟨vs.take off ++ ((Builtin.zeroCells z.cells n).toList ++ (vs ++ tail).drop (off + (Builtin.zeroCells z.cells n).toList.length))⟩ tb (0, 0)) := by
        have := setRow_heap w b ⟨vs ++ tail⟩ ((vs ++ tail).take off ++ (Builtin.zeroCells z.cells n).toList ++ (vs ++ tail).drop (off + (Builtin.zeroCells z.cells n).toList.length)).toArray tb (0, 0) hb
        have e1 : (vs ++ tail).take off = vs.take off := List.take_append_of_le_length (by omega)
        simp only [w']
        rw [e1] at this ⊢
        simpa [List.append_assoc] using this
      have hsize' : w'.heap.size = w.heap.size := by simp [w', World.setRow]
      have hmem : MemOK m w' := V.mem.step fun k ⟨o', v, e⟩ => hother k (fun hk => by subst hk; rw [hno o'] at e; cases e)
      refine hK _ m ρ w' ⟨⟨Mem.le_refl _, by omega, fun k hk hnb => hother k (fun e => hnb (by subst e; exact ⟨id, c, by simp, by rw [show ({ S := S, H := H, nx := nx, df := df } : St).H id = _ from hH]; simp, hr⟩)), rfl, rfl, rfl, fun _ _ _ e => .inl e⟩, Ren.le_refl _, fun i => .inl rfl, ⟨hmem, ?_, ?_⟩, ?_⟩ (by simp [Rep])
      · intro j ob hj hHj
        have hj' : j = id := by simpa using hj.elim (fun h => h) (by omega)
        subst hj'
        simp only [putH, if_true, Option.some.injEq] at hHj
        subst hHj
        exact .inr ⟨b, c, vs.take off, _, tb, hr, hblk, repP_take _ hrl, fun u hu => hone u (List.mem_of_mem_take hu), hno⟩
      · intro j j' b1 c1' c2' hj hj' _ _ _ _
        have e1 : j = id := by simpa using hj.elim (fun h => h) (by omega)
        have e2 : j' = id := by simpa using hj'.elim (fun h => h) (by omega)
        rw [e1, e2]
      · rintro b1 ⟨j, c1', hj, _, hri⟩
        have hj' : j = id := by simpa using hj.elim (fun h => h) (by omega)
        subst hj'
        exact .inl ⟨j, c1', by simp, by rw [show ({ S := S, H := H, nx := nx, df := df } : St).H j = _ from hH]; simp, hri⟩
  · subst h00
    exact same (hrun0 ad kk w ev (by cases ad <;> simp))
theorem so_peek {c : Call} {f : Nat} {x : Operand} {rest : List Operand} {id n : Nat} {l ds : List D} {v : Value} (ho : o.op = .call c) (hc : c.callee = .value (.func f)) (hargs : c.args.toList = x :: rest) (he : entersB P f = true) (hx : evP S x = .vrow id 0 n) (hH : H id = some (.var (rowC l))) (hn : n = l.length)
    (hd : PV.toDs (rest.map (evP S)) = some ds) (hF : Fun P f (.slice l :: ds) (.val v)) (hk : k (.d (.val v)) H nx [id] []) : stepO P o ⟨S, H, nx, df⟩ k := by
  intro hnil
  refine ⟨_, _, _, _, _, ⟨Nat.le_refl _, fun _ _ _ => rfl, hnil, by simp, by simpa using idLt hnil hH, ?_⟩, hk⟩
  intro m ρ a w K Q V hf hxs hK
  have h1 : ∀ y ∈ c.args.toList, Rep m ρ (evP S y) (a.eval y) := fun y hy => hxs y (by simp only [ho, Op.operands, Call.operands]; simp only [Array.mem_append]; exact .inr (by simpa using hy))
  have hxr := h1 x (by rw [hargs]; simp)
  rw [hx] at hxr
  simp only [Rep] at hxr
  have hE := V.entry id _ (by simp) hH
  have hrest : ∀ y ∈ rest, Rep m ρ (evP S y) (a.eval y) := fun y hy => h1 y (by rw [hargs]; simp [hy])
  have hargs2 : c.args.toList.map a.eval = a.eval x :: rest.map a.eval := by rw [hargs]; rfl
  have e0 : (⟨c.args.toList.map a.eval⟩ : Array Value) = c.args.map a.eval := by apply Array.ext'; simp
  have go : ∀ m1 : Mem, m.le m1 → MemOK m1 w → (∀ b o' v', m1 b o' = some v' → m b o' = some v' ∨ b < w.heap.size) → RepD m1 (.slice l) (a.eval x) → o.wp P a w K Q := by
    intro m1 hle hm1 _ hrx
    have hr : RepL m1 (.slice l :: ds) (c.args.toList.map a.eval) := by
      rw [hargs2]
      simp only [RepL]
      exact ⟨_, _, rfl, hrx, RepL.mono hle _ _ (repL_evals hrest hd)⟩
    unfold Oper.wp
    rw [run_call_func ho hc he, Oper.upon_enter]
    have := hF m1 w _ hm1 hr
    rw [e0] at this
    refine this.mono ?_
    rintro e w' ⟨u, m', rfl, hv, hm', hEx⟩
    simp only [RepD] at hv
    subst hv
    have hsame : ∀ b, b < w.heap.size → w'.heap[b]? = w.heap[b]? := fun b hb => hEx.block b hb (fun h => h)
    refine hK u m ρ w' ⟨⟨Mem.le_refl _, hEx.size, fun b hb _ => hsame b hb, hEx.os, hEx.tape, hEx.output, fun _ _ _ e => .inl e⟩, Ren.le_refl _, fun i => .inl rfl, ⟨?_, ?_, ?_⟩, ?_⟩ (by simp [Rep, RepD])
    · intro b o' v' e'
      have h2 := V.mem b o' v' e'
      refine ⟨?_, h2.2⟩
      have hb := V.mem.lt e'
      have h3 := h2.1
      unfold World.cell? at h3 ⊢
      rw [hsame b hb]; exact h3
    · intro i ob hi hHi
      have hi' : i = id := by simpa using hi.elim (fun h => h) (by omega)
      subst hi'
      have hEi := V.entry i ob (by simp) hHi
      exact hEi.move (Mem.le_refl _) (Ren.le_refl _) rfl (fun b c hr => hsame b (hEi.ren hr)) (fun _ _ _ _ _ h => h)
    · intro i j b c1 c2 hi hj _ _ _ _
      have e1 : i = id := by simpa using hi.elim (fun h => h) (by omega)
      have e2 : j = id := by simpa using hj.elim (fun h => h) (by omega)
      rw [e1, e2]
    · rintro b ⟨i, c1, hi, hl, hri⟩
      have hi' : i = id := by simpa using hi.elim (fun h => h) (by omega)
      subst hi'
      exact .inl ⟨i, c1, by simp, hl, hri⟩
  rcases hxr with ⟨b, cc, kk, hr, ev, hkk⟩ | ⟨h0, ad, kk, ev⟩
  · rcases hE with ⟨_, hr'⟩ | ⟨b', c', vs, tail, tb, hr', hb, hrl, hone, hno⟩
    · rw [hr] at hr'; cases hr'
    rw [hr] at hr'; cases hr'
    have hl := RepP.toDs _ _ _ (toDs_d _) hrl
    have hle : m.le (m.with b vs) := Mem.le_with hno
    have hm1 : MemOK (m.with b vs) w := by
      refine V.mem.with (fun _ _ => rfl) (fun o' v' h => ?_) hone
      rw [cell_of_block hb, List.getElem?_append_left (List.getElem?_eq_some_iff.1 h).1]; exact h
    refine go (m.with b vs) hle hm1 (fun b' o' v' h => ?_) ?_
    · unfold Mem.with at h
      split at h
      · rename_i e; right; rw [e]; exact (Array.getElem?_eq_some_iff.1 hb).1
      · exact .inl h
    · simp only [RepD]
      exact ⟨_, kk, by rw [ev, hn], by omega, .inr ⟨b, 0, rfl, repE_of_vals (hl.mono hle) (fun j u hj => by simp [Mem.with, hj])⟩⟩
  · subst h0
    have : l = [] := List.eq_nil_of_length_eq_zero hn.symm
    subst this
    refine go m (Mem.le_refl _) V.mem (fun _ _ _ h => .inl h) ?_
    simp only [RepD]
    exact ⟨ad, kk, by rw [ev]; rfl, Nat.zero_le _, .inl trivial⟩
end
variable {N b : Nat}
theorem View.freezeRow {s : St} {l : List D} {n : Nat} {R : List PV} (id t : Nat) (hH : s.H id = some (.var (rowC l ++ R))) (ht : s.S t = .vrow id 0 n) (hn : n = l.length) (hbn : b ≤ s.nx) : View N b s ⟨putS s.S (some t) (.d (.slice l)), putH s.H id none, s.nx, s.df⟩ := by
  intro m ρ a w hI
  have hslot := hI.slots t
  rw [ht] at hslot
  simp only [Rep] at hslot
  have hE := hI.valid.entry id _ trivial hH
  have fin : ∀ m1 : Mem, m.le m1 → MemOK m1 w → (∀ x y v, m1 x y = some v → m x y = some v ∨ ∃ c, ρ id = some (x, c)) → RepD m1 (.slice l) (a.tmps.getD t undef) → ∃ m' ρ', Inv N ⟨putS s.S (some t) (.d (.slice l)), putH s.H id none, s.nx, s.df⟩ m' ρ' a w ∧ AdvB b m ρ w s.H s.nx m' ρ' w (putH s.H id none) := by
    intro m1 hm1 hmem hnew hrep
    have hI' : Inv N ⟨putS s.S (some t) (.d (.slice l)), putH s.H id none, s.nx, s.df⟩ m1 ρ a w := by
      refine ⟨hI.size, hI.defers.mono hm1 (Ren.le_refl _), fun i => ?_, ⟨hmem, fun i o _ hH' => ?_, fun i j b1 c1 c2 _ _ hi hj hri hrj => ?_⟩, fun i hi => ?_, hI.rnil⟩
      · show Rep _ _ (putS s.S (some t) (.d (.slice l)) i) _
        rw [putS_at]
        split
        · rename_i e
          subst e
          simpa only [Rep] using hrep
        · exact (hI.slots i).mono hm1 (Ren.le_refl _)
      · by_cases e : i = id
        · subst e; simp [putH] at hH'
        · simp only [putH, e, if_false] at hH'
          have hE := hI.valid.entry i o trivial hH'
          refine hE.move hm1 (Ren.le_refl _) rfl (fun _ _ _ => rfl) (fun b' c' hr o' v e' => ?_)
          rcases hnew b' o' v e' with h1 | ⟨c, h1⟩
          · exact h1
          · exact absurd (hI.valid.apart i id b' c' c trivial trivial (by rw [hH']; simp) (by rw [hH]; simp) hr h1) e
      · refine hI.valid.apart i j b1 c1 c2 trivial trivial ?_ ?_ hri hrj
        · intro e; apply hi; simp only [putH]; split
          · rfl
          · exact e
        · intro e; apply hj; simp only [putH]; split
          · rfl
          · exact e
      · simp only [putH]
        split
        · rfl
        · exact hI.hnil i hi
    have blk : ∀ x, Blk ρ (putH s.H id none) (fun _ => True) x → Blk ρ s.H (fun _ => True) x := by
      rintro x ⟨i, c, _, hl, hri⟩
      refine ⟨i, c, trivial, ?_, hri⟩
      intro e
      apply hl
      simp only [putH]
      split
      · rfl
      · exact e
    refine ⟨m1, ρ, hI', ⟨⟨hm1, Nat.le_refl _, fun _ _ _ => rfl, rfl, rfl, rfl, fun x y v e => ?_⟩, fun c hc => .inl (blk c hc), hbn, fun _ _ => rfl⟩⟩
    rcases hnew x y v e with h2 | ⟨c, h2⟩
    · exact .inl h2
    · exact .inr (.inl ⟨id, c, trivial, by rw [hH]; simp, h2⟩)
  rcases hslot with ⟨b0, cc, kk, hr, ev, hkk⟩ | ⟨h0, ad, kk, ev⟩
  · rcases hE with ⟨_, hr'⟩ | ⟨b', c', vs, tail, tb, hr', hb, hrl, hone, hno⟩
    · rw [hr] at hr'; cases hr'
    rw [hr] at hr'; cases hr'
    have hle : m.le (m.with b0 vs) := Mem.le_with hno
    have hm1 : MemOK (m.with b0 vs) w := by
      refine hI.valid.mem.with (fun _ _ => rfl) (fun o' v' h => ?_) hone
      rw [cell_of_block hb, List.getElem?_append_left (List.getElem?_eq_some_iff.1 h).1]; exact h
    refine fin (m.with b0 vs) hle hm1 (fun x y v e => ?_) ?_
    · unfold Mem.with at e
      split at e
      · rename_i hx; right; exact ⟨cc, by rw [hx]; exact hr⟩
      · exact .inl e
    · have hrp : RepP m ρ (rowC l) (vs.take (rowC l).length) := by
        have := repP_take (rowC l).length hrl
        rwa [List.take_left' rfl] at this
      have hl := RepP.toDs _ _ _ (toDs_d _) hrp
      simp only [RepD]
      refine ⟨_, kk, by rw [ev, hn], by omega, .inr ⟨b0, 0, rfl, repE_of_vals (hl.mono hle) (fun j u hj => ?_)⟩⟩
      rw [List.getElem?_take] at hj
      split at hj
      · simp [Mem.with, hj]
      · cases hj
  · subst h0
    have : l = [] := List.eq_nil_of_length_eq_zero hn.symm
    subst this
    refine fin m (Mem.le_refl _) hI.valid.mem (fun _ _ _ e => .inl e) ?_
    simp only [RepD]
    exact ⟨ad, kk, ev, Nat.zero_le _, .inl trivial⟩
section
variable {o : Oper} {S : Nat → PV} {H : HM} {nx : Nat} {df : List (Nat × List PV)} {k : PV → HM → Nat → List Nat → List Nat → Prop} {α : Type} {en : α → D} {c : α → List D} {sz : Nat}
theorem clr_le (hl : Lay en c sz) {l : List α} {A : Int} {n : Nat} (h : 0 ≤ A ∧ A ≤ (n : Int) ∧ (n : Int) ≤ (n : Int)) (hn : n = l.length) : 0 + A.toNat * sz + ((n : Int) - A).toNat * sz ≤ (rowC (l.map en)).length := by
  rw [rowC_len hl, Nat.zero_add, ← Nat.add_mul]
  exact Nat.mul_le_mul_right _ (by omega)
theorem clr_take (hl : Lay en c sz) {l : List α} {A : Int} {n : Nat} (h : 0 ≤ A ∧ A ≤ (n : Int) ∧ (n : Int) ≤ (n : Int)) (hn : n = l.length) : (rowC (l.map en)).take (0 + A.toNat * sz) = rowC ((l.take A.toNat).map en) := rowC_takeC hl l A.toNat (by omega)
end
theorem View.freezeR0 {s : St} {α : Type} {en : α → D} {l : List α} {n : Nat} (id t : Nat) (hH : s.H id = some (.var (rowC (l.map en)))) (ht : s.S t = .vrow id 0 n) (hn : n = l.length) (hbn : b ≤ s.nx) : View N b s ⟨putS s.S (some t) (.d (.slice (l.map en))), putH s.H id none, s.nx, s.df⟩ :=
  View.freezeRow (R := []) id t (by rw [List.append_nil]; exact hH) ht (by rw [List.length_map]; exact hn) hbn
end Go.Proofs.Ythpgedneniekmaa.K
