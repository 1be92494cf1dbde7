/- Onto a row that is not owned: what comes is a row. -/
import Derived.Test.YtonlehebfeilmaaK37
namespace Go.Proofs.Ytonlehebfeilmaa.K
open Go Go.RowKit
variable {P : Program}

theorem run_append_none {w : World} (t u ty e : TypeId) (d : TypeDesc) (i : TypeInfo) (ht : P.underlying t = some (.slice e)) (hu : P.underlying u = some d) (hd : notInt d = true) (hi : P.info? e = some i)
    (base : Option Addr) (n : Nat) (y : Value) (hy : (Builtin.lenOf y).run P w = .ok 0 w) (hn : (Builtin.firstCells i.size 0 y).run P w = .ok #[] w) :
    (Builtin.append_ #[t, u] ty #[.slice base n n, y]).run P w = .ok (.slice base n n) w := by
  rcases notInt_cases hd with ⟨e2, rfl⟩ | rfl
  all_goals cases base <;> simp [Builtin.append_, run_underlying ht, run_underlying hu, sizeOf, typeInfo, hi, hy, hn, storeCells]

theorem append_data {o : Oper} {S : Nat → PV} {t u : TypeId} {x y : Operand} {l l2 : List D} (ho : o.op = .call { callee := .builtin .append, args := #[x, y], argTypes := #[t, u] }) {sz by' : Nat} (hrow : rowA P t = some (sz, by')) {d : TypeDesc} (hu : P.underlying u = some d) (hd : notInt d = true)
    (hx : evP S x = .full l) (hy : (evP S y).more = some l2) (c1 : ∀ z ∈ l, z.cells.length = sz) (c2 : ∀ z ∈ l2, z.cells.length = sz) (hb : (l.length + l2.length) * by' ≤ 140737488355328) (hm : l.length + l2.length ≤ maxLen) :
    PureRun P o S (.d (.slice (l ++ l2))) := by
  intro m ρ a w hM hxs
  have h1 := hxs x (by simp [ho, Op.operands, Call.operands])
  have h2 := hxs y (by simp [ho, Op.operands, Call.operands])
  rw [hx] at h1
  obtain ⟨e, i, z, hte, hi, hz, hzs, h0, hsz, hby⟩ := rowA_spec hrow
  obtain ⟨g1, news, g2, g3, g4, g5⟩ := news_of (P := P) hM hy h2 c2
  obtain ⟨q1, olds, q2, q3, q4, q5⟩ := news_of (P := P) hM (p := .full l) rfl h1 c1
  simp only [Rep] at h1
  obtain ⟨ad, ev, hrep⟩ := h1
  subst hsz
  subst hby
  by_cases hk : l2 = []
  · subst hk
    have hrun := run_append_none (P := P) t u o.type e d i hte hu hd hi ad l.length (a.eval y) (by simpa using g1) (by
      have := g5 w rfl
      have hnn : news = [] := List.eq_nil_of_length_eq_zero (by simpa using g2)
      subst hnn
      simpa using this)
    refine ⟨_, m, w, run_call_append ho (by rw [ev]; exact hrun), hM, Ext.refl _ _ _, ?_⟩
    simp only [Rep, RepD, List.append_nil]
    exact ⟨ad, l.length, rfl, Nat.le_refl _, hrep⟩
  · have hpos : 0 < l2.length := List.length_pos_iff.2 hk
    have hgrow : l.length < l.length + l2.length := by omega
    have hrun := run_append_grows (P := P) w t u o.type e d i z hte hu hd hi hz ad l.length l.length l2.length (a.eval y) olds news g1 (by
      have := q5 w.drew rfl
      rw [ev] at this
      exact this) (g5 w.drew rfl) hgrow (by simp only [maxLen] at hm; omega) (growslice_fits hgrow hb)
    have hge := grownCap_ge w (l.length + l2.length) l.length e
    have hcm := grownCap_le_maxLen w (l.length + l2.length) l.length e hm
    have hlen : (olds ++ news).length = (l.length + l2.length) * i.size := by rw [List.length_append, q2, g2, Nat.add_mul]
    have hD := grownDone (s := ⟨S, fun _ => none, 0, []⟩) (m := m) (ρ := fun _ => none) (w := w) [] ⟨hM, (fun k ob hk' hH => nomatch hH), (fun k j b c c' hk' => nomatch hk')⟩ (fun _ _ _ => rfl) (vals := olds ++ news) (rest := (Builtin.zeroCells z.cells (grownCap w (l.length + l2.length) l.length e - (l.length + l2.length))).toList) (sz := i.size) (n := l.length + l2.length) (cap := grownCap w (l.length + l2.length) l.length e)
      (fun v hv => (List.mem_append.1 hv).elim (q4 v) (g4 v)) hlen (by
        have hzc : (Builtin.zeroCells z.cells (grownCap w (l.length + l2.length) l.length e - (l.length + l2.length))).toList.length = (grownCap w (l.length + l2.length) l.length e - (l.length + l2.length)) * i.size := by
          rw [Array.length_toList, size_zeroCells, hzs]
        rw [hlen, hzc, ← Nat.add_mul]
        congr 1
        omega) hge hcm e (fun _ => none) (fun i => .inr rfl)
    obtain ⟨d1, d2, d3, d4, d5⟩ := hD
    refine ⟨_, _, _, run_call_append ho (by rw [ev]; exact hrun), d4.mem, ⟨d1.1, d1.2, fun b hb hF => d1.3 b hb (fun ⟨k, c, hk', _⟩ => nomatch hk'), d1.4, d1.5, d1.6, fun b o' v h => (d1.7 b o' v h).imp id fun h => h.elim (fun ⟨k, c, hk', _⟩ => nomatch hk') .inr⟩, ?_⟩
    simp only [Rep, RepD]
    refine ⟨_, _, by rw [List.length_append], by rw [List.length_append]; exact hge, .inr ⟨_, _, rfl, ?_⟩⟩
    exact repE_of_vals ((flat_append q3 g3).mono (Mem.le_with (memNone hM))) (fun j v hj => by simp [Mem.with, hj])

theorem pr_app {o : Oper} {S : Nat → PV} {α : Type} {en : α → D} {c : α → List D} {n by' : Nat} {t u : TypeId} {d : TypeDesc} {x y : Operand} {l l2 : List α} (ho : o.op = .call { callee := .builtin .append, args := #[x, y], argTypes := #[t, u] }) (ht : rowA P t = some (n, by')) (hu : P.underlying u = some d) (hd : notInt d = true) (hl : Lay en c n)
    (hx : evP S x = .full (l.map en)) (hy : (evP S y).more = some (l2.map en)) (h : (l.length + l2.length) * by' ≤ 140737488355328) (hb : 0 < by') : PureRun P o S (.d (.slice ((l ++ l2).map en))) := by
  have := append_data ho ht hu hd hx hy (hl.all l) (hl.all l2) (by simpa using h) (by
    have : (l.length + l2.length) * 1 ≤ (l.length + l2.length) * by' := Nat.mul_le_mul_left _ hb
    rw [maxLen_val, List.length_map, List.length_map]; omega)
  rwa [← List.map_append] at this
end Go.Proofs.Ytonlehebfeilmaa.K
