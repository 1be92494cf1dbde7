/- Tests of rows against nil; drawn regions with several writers; rows of sums. -/
import Derived.Test.YtonlehebfeilmaaK27
namespace Go.Proofs.Ytonlehebfeilmaa.K
open Go Go.RowKit

variable {P : Program} {N : Nat} {ops : Array Oper} {o : Oper} {r : List Oper} {s : St}

theorem eqSliceNil {t e : TypeId} {w : World} (hu : P.underlying t = some (.slice e)) (a : Option Addr) (n c : Nat) : (Op.equal t (.slice a n c) (.slice none 0 0)).run P w = .ok a.isNone w := by
  have : ∀ k, (Op.equalIn (k + 1) t (.slice a n c) (.slice none 0 0)).run P w = .ok a.isNone w := fun k => by cases a <;> simp [Op.equalIn, run_underlying hu]
  exact this 9999

/-- A row that has elements is not nil; one that has none may be. -/
theorem nilTest_run {t e u : TypeId} {x : Operand} {op : BinOp} (ho : o.op = .binOp op t x (.const (.slice none 0 0)) u) (hop : op = .eql ∨ op = .neq) (hu : P.underlying t = some (.slice e)) {l : List D} (hx : evP s.S x = .d (.slice l)) :
    XCall P o s fun out H' nx' => ∃ b : Bool, (l ≠ [] → b = false) ∧ out = .ret (.d (.val (.bool (eqOut op b)))) ∧ H' = s.H ∧ nx' = s.nx := by
  intro m ρ a w K Q V hn hρ hxs h1 _
  have h2 := hxs x (by simp [ho, Op.operands])
  rw [hx] at h2
  simp only [Rep, RepD] at h2
  obtain ⟨ad, c, ev, _, hl⟩ := h2
  have hb : l ≠ [] → ad.isNone = false := by
    intro hne
    rcases hl with rfl | ⟨b, o', rfl, _⟩
    · exact absurd rfl hne
    · rfl
  have hexec : (execOp a.eval o).run P w = .ok (.value (.bool (eqOut op ad.isNone))) w := by
    obtain ⟨dst, op', type, pos, after, guard⟩ := o
    simp only at ho
    subst ho
    have hc : a.eval (.const (.slice none 0 0)) = .slice none 0 0 := rfl
    rcases hop with rfl | rfl <;> simp [execOp, ev, hc, eqGuard, binOp, eqSliceNil hu, eqOut]
  unfold Oper.wp
  rw [hexec, Oper.upon_value]
  exact h1 _ s.H s.nx m ρ w _ ⟨_, hb, rfl, rfl, rfl⟩ V hn hρ (Adv.refl _ _ _ _ _) (by simp [Rep, RepD])

theorem XK.nilTest {Q : PX → St → Prop} {t e u : TypeId} {x : Operand} {op : BinOp} {l : List D} (hg : o.guard = none) (ho : o.op = .binOp op t x (.const (.slice none 0 0)) u) (hop : op = .eql ∨ op = .neq) (hu : P.underlying t = some (.slice e)) (hx : evP s.S x = .d (.slice l))
    (h : ∀ b : Bool, (l ≠ [] → b = false) → XK P ops r ⟨putS s.S o.dst (.d (.val (.bool (eqOut op b)))), s.H, s.nx, s.df⟩ Q) : XK P ops (o :: r) s Q := by
  intro hn
  refine .call hg (nilTest_run ho hop hu hx) ?_ ?_
  · rintro p H' nx' ⟨b, hb, e, rfl, rfl⟩ hn'
    cases e
    exact h b hb hn
  · rintro p H' nx' ⟨b, _, e, _⟩
    cases e

/-! ### The order of a drawn region's operations -/

def okL : List Nat → List Rec → Prop
  | [], [] => True
  | c :: cs, R :: Rs => ((c = 0 → R.T = []) ∧ (c ≠ 2 → R.W = [] ∧ R.lo = R.hi)) ∧ okL cs Rs
  | _, _ => False
theorem okL_get : ∀ {C : List Nat} {L : List Rec} {i : Nat} {R : Rec}, okL C L → L[i]? = some R → ((C.getD i 0 = 0 → R.T = []) ∧ (C.getD i 0 ≠ 2 → R.W = [] ∧ R.lo = R.hi))
  | [], [], i, R, _, e => by simp at e
  | c :: cs, R' :: Rs, 0, R, h, e => by
    simp only [List.getElem?_cons_zero, Option.some.injEq] at e
    subst e
    exact h.1
  | c :: cs, R' :: Rs, i + 1, R, h, e => by
    simp only [List.getElem?_cons_succ] at e
    simpa using okL_get h.2 e
  | [], _ :: _, _, _, h, _ => h.elim
  | _ :: _, [], _, _, h, _ => h.elim
/-- Each pair of which one writes, and the other reads or writes, is ordered. -/
def ordOK (M C : List Nat) : Bool := (List.range C.length).all fun j => (List.range j).all fun i => !((C.getD i 0 == 2 && C.getD j 0 != 0) || (C.getD j 0 == 2 && C.getD i 0 != 0)) || (M.getD j 0).testBit i
theorem RecsOK.ord {M : List Nat} {L : List Rec} (C : List Nat) (h1 : okL C L) (h2 : ordOK M C = true) (h3 : L.length ≤ C.length) : RecsOK M L := by
  intro i j a b hij ha hb hx
  have hA := okL_get h1 ha
  have hB := okL_get h1 hb
  have hj : j < C.length := Nat.lt_of_lt_of_le (List.getElem?_eq_some_iff.1 hb).1 h3
  have key := List.all_eq_true.1 (List.all_eq_true.1 h2 j (List.mem_range.2 hj)) i (List.mem_range.2 hij)
  simp only [Bool.or_eq_true, Bool.not_eq_true', Bool.or_eq_false_iff, Bool.and_eq_false_iff, beq_eq_false_iff_ne, bne_eq_false_iff_eq] at key
  rcases key with ⟨k1, k2⟩ | k
  · rcases hx with ⟨x, hx, hx2⟩ | ⟨x, hx, hx2⟩
    · have c2 : C.getD i 0 = 2 := by
        by_cases h : C.getD i 0 = 2
        · exact h
        · obtain ⟨w1, w2⟩ := hA.2 h
          rcases hx2 with hx2 | hx2
          · rw [w1] at hx2; cases hx2
          · omega
      have c0 : C.getD j 0 ≠ 0 := by intro h; rw [hB.1 h] at hx; cases hx
      rcases k1 with k1 | k1
      · exact absurd c2 k1
      · exact absurd k1 c0
    · have c2 : C.getD j 0 = 2 := by
        by_cases h : C.getD j 0 = 2
        · exact h
        · rw [(hB.2 h).1] at hx2; cases hx2
      have c0 : C.getD i 0 ≠ 0 := by intro h; rw [hA.1 h] at hx; cases hx
      rcases k2 with k2 | k2
      · exact absurd c2 k2
      · exact absurd k2 c0
  · exact k

/-! ### Rows of arrays of bytes -/
def sumD (s : List UInt8) : D := .agg (s.map byteD)
theorem sumD_app (s : List UInt8) : sumD s = .agg (s.map byteD) := rfl
theorem getD_sums {l : List (List UInt8)} {i : Nat} (h : i < l.length) : ((l.map sumD).getD i default).cells = (l.getD i []).map byteD := by
  rw [List.getD_eq_getElem?_getD, List.getD_eq_getElem?_getD, List.getElem?_map, List.getElem?_eq_getElem h]
  rfl
theorem all_sums {l : List (List UInt8)} {n : Nat} (h : ∀ s ∈ l, s.length = n) : (∀ x ∈ l.map sumD, x.cells.length = n) = True := by
  refine eq_true ?_
  intro x hx
  obtain ⟨s, hs, rfl⟩ := List.mem_map.1 hx
  simpa [sumD, D.cells] using h s hs
theorem map_append_sums {l k : List (List UInt8)} : l.map sumD ++ k.map sumD = (l ++ k).map sumD := by simp
theorem map_append_sum {l : List (List UInt8)} {x : List UInt8} : l.map sumD ++ [.agg (x.map byteD)] = (l ++ [x]).map sumD := by simp [sumD]
theorem map_take_sum {l : List (List UInt8)} {n : Nat} : (l.map sumD).take n = (l.take n).map sumD := List.map_take.symm
theorem map_drop_sum {l : List (List UInt8)} {n : Nat} : (l.map sumD).drop n = (l.drop n).map sumD := List.map_drop.symm
attribute [go_sem] getD_sums all_sums map_append_sums map_append_sum map_take_sum map_drop_sum
end Go.Proofs.Ytonlehebfeilmaa.K
