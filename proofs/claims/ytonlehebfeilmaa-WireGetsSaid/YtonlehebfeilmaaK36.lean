/- Structs that hold arrays: their cells, part by part. -/
import Derived.Test.YtonlehebfeilmaaK35
namespace Go.Proofs.Ytonlehebfeilmaa.K
open Go Go.RowKit

variable {P : Program} {α : Type} {n : Nat} {en : α → D} {A R R' : List D} {m j : Nat}

theorem ldc_skip {ag : Bool} {w : Nat} {d : D} (m j : Nat) (h : A.length = m) (H : LdC ag w (R.drop j) d) : LdC ag w ((A ++ R).drop (m + j)) d := by
  subst h
  rw [List.drop_append, List.drop_eq_nil_of_le (Nat.le_add_right _ _), List.nil_append, Nat.add_sub_cancel_left]
  exact H
theorem ldc_first (h : A.length = m) : LdC true m (A ++ R) (.agg A) := by
  subst h
  exact ⟨by simp, by rw [List.take_left]⟩
theorem ldc_all (h : A.length = m) : LdC true m A (.agg A) := by
  subst h
  exact ⟨Nat.le_refl _, by rw [List.take_length]⟩
theorem pre_skip {a : Arr n α} (m j : Nat) (h : A.length = m) (H : Pre (R.drop j) en a) : Pre ((A ++ R).drop (m + j)) en a := by
  subst h
  rw [List.drop_append, List.drop_eq_nil_of_le (Nat.le_add_right _ _), List.nil_append, Nat.add_sub_cancel_left]
  exact H
theorem pre_first {a : Arr n α} : Pre (a.1.map en ++ R) en a := ⟨R, rfl⟩
theorem spl_skip {c : List PV} (m j : Nat) (h : A.length = m) (H : spl (R.map PV.d) j c = R'.map PV.d) : spl ((A ++ R).map PV.d) (m + j) c = (A ++ R').map PV.d := by
  subst h
  unfold spl at H ⊢
  rw [List.map_append, List.take_append, List.drop_append, List.length_map, List.take_of_length_le (by simp), List.drop_eq_nil_of_le (by simp; omega), List.nil_append, Nat.add_sub_cancel_left, show A.length + j + c.length - A.length = j + c.length by omega, List.append_assoc, H, ← List.map_append]
theorem spl_first {c : List D} (h : A.length = m) (hc : c.length = m) : spl ((A ++ R).map PV.d) 0 (c.map PV.d) = (c ++ R).map PV.d := by
  subst h
  unfold spl
  rw [List.take_zero, List.nil_append, List.map_append, Nat.zero_add, List.length_map, hc, List.drop_append, List.drop_eq_nil_of_le (by simp), List.nil_append, List.length_map, Nat.sub_self, List.drop_zero, List.map_append]
theorem spl_all0 {c : List D} (h : A.length = m) (hc : c.length = m) : spl (A.map PV.d) 0 (c.map PV.d) = c.map PV.d := spl_same (by simp [h, hc])
theorem flat_app (h : ∀ x ∈ A, x.flat = true) (k : ∀ x ∈ R, x.flat = true) : ∀ x ∈ A ++ R, x.flat = true := by
  intro x hx
  rcases List.mem_append.1 hx with hx | hx
  · exact h x hx
  · exact k x hx
theorem flat_cons {d : D} (h : d.flat = true) (k : ∀ x ∈ R, x.flat = true) : ∀ x ∈ d :: R, x.flat = true := by
  intro x hx
  rcases List.mem_cons.1 hx with rfl | hx
  · exact h
  · exact k x hx
theorem flat_nil : ∀ x ∈ ([] : List D), x.flat = true := by simp
theorem fill_nil {place : Nat → Option (Nat × Nat)} {cells : List PV} : (fillP place cells []).2 ∧ (fillP place cells []).1 = cells := ⟨trivial, rfl⟩
theorem fill_step {place : Nat → Option (Nat × Nat)} {cells cells' out : List PV} {i off size : Nat} {p : PV} {r : List (Nat × PV)} (hp : place i = some (off, size)) (hs : p.solid = true) (hl : p.cellsP.length = size) (hf : off + size ≤ cells.length)
    (hspl : spl cells off p.cellsP = cells') (H : (fillP place cells' r).2 ∧ (fillP place cells' r).1 = out) : (fillP place cells ((i, p) :: r)).2 ∧ (fillP place cells ((i, p) :: r)).1 = out := by
  unfold fillP
  simp only [hp]
  rw [hspl]
  exact ⟨⟨⟨hs, hl, hf⟩, H.1⟩, H.2⟩
theorem build_of {z : List Value} {pl : List (Nat × Nat) ⊕ Nat} {parts : List (Nat × PV)} {out : List PV} (hz : z.all Value.oneCell' = true) (H : (fillP (placeOf pl) (z.map cellV) parts).2 ∧ (fillP (placeOf pl) (z.map cellV) parts).1 = out) :
    (buildP (some (z, pl)) parts).2 ∧ (buildP (some (z, pl)) parts).1 = .agg out := ⟨⟨hz, H.1⟩, congrArg PV.agg H.2⟩
theorem sf_bld {o : Oper} {S : Nat → PV} {H : HM} {nx : Nat} {df : List (Nat × List PV)} {frz : List Nat} {k : PV → HM → Nat → List Nat → List Nat → Prop} {t : TypeId} {parts : Array (Nat × Operand)} {v : PV} {b : List Value × (List (Nat × Nat) ⊕ Nat)} (ho : o.op = .build t parts) (hb : bldA P t = some b)
    (h : (buildP (some b) (partsQ S parts.toList)).2 ∧ (buildP (some b) (partsQ S parts.toList)).1 = v) (hk : k v H nx [] []) : stepF P frz o ⟨S, H, nx, df⟩ k := sf_build ho (by rw [hb]; exact h.1) (by rw [hb]; exact h.2) hk
theorem PV.toDagg {l : List D} {d : D} (h : d = .agg l) : PV.toD (.agg (l.map .d)) = some d := by rw [h]; simp only [PV.toD, toDs_d, Option.map_some]

/-! ### Values of interfaces -/
section
variable {ops : Array Oper} {o : Oper} {r : List Oper} {S : Nat → PV} {H : HM} {nx : Nat} {df : List (Nat × List PV)} {Q : PX → St → Prop}
theorem XK.pr {v : PV} (d : Option Nat) (hd : o.dst = d) (hg : o.guard = none) (h : PureRun P o S v) (k : XK P ops r ⟨putS S d v, H, nx, df⟩ Q) : XK P ops (o :: r) ⟨S, H, nx, df⟩ Q := by
  subst hd
  exact fun hn => .step (.run hg (pure_step (s := ⟨S, H, nx, df⟩) hn h.op)) (k hn)
theorem pr_nilnil {t u : TypeId} {ms : Array (String × TypeId)} {x : Operand} (ho : o.op = .binOp .eql t x (.const .nilIface) u) (ht : P.underlying t = some (.interface ms)) (hx : evP S x = .d (.val .nilIface)) : PureRun P o S (.d (.val (.bool true))) := by
  refine PureRun.still fun m ρ a w _ hxs => ?_
  have h1 := hxs x (by simp [ho, Op.operands])
  rw [hx] at h1
  simp only [Rep, RepD] at h1
  obtain ⟨dst, op', type, pos, after, guard⟩ := o
  simp only at ho
  subst ho
  refine ⟨.bool true, ?_, by simp [Rep, RepD]⟩
  have e : (Op.equal t .nilIface .nilIface).run P w = .ok true w := by
    have : ∀ n, (Op.equalIn (n + 1) t .nilIface .nilIface).run P w = .ok true w := fun n => by simp [Op.equalIn, run_underlying ht]
    exact this 9999
  have hc : a.eval (.const .nilIface) = .nilIface := rfl
  simp [execOp, h1, hc, eqGuard, binOp, e]
def notIface : TypeDesc → Bool
  | .interface _ => false
  | _ => true
theorem pr_assert {xT t : TypeId} {d : TypeDesc} {x : Operand} {y : D} (ho : o.op = .typeAssert x xT t true) (ht : P.underlying t = some d) (hd : notIface d = true) (hx : evP S x = .d (.iface t y)) : PureRun P o S (.d (.tuple [y, .val (.bool true)])) := by
  refine PureRun.still fun m ρ a w _ hxs => ?_
  have h1 := hxs x (by simp [ho, Op.operands])
  rw [hx] at h1
  simp only [Rep, RepD] at h1
  obtain ⟨u, hu, hr⟩ := h1
  obtain ⟨dst, op', type, pos, after, guard⟩ := o
  simp only at ho
  subst ho
  refine ⟨.tuple #[u, .bool true], ?_, ?_⟩
  · simp only [execOp, hu, Instr.typeAssert]
    cases d <;> simp_all [run_underlying ht, notIface]
  · simp only [Rep, RepD]
    exact ⟨[u, .bool true], rfl, by simp only [RepL, RepD]; exact ⟨u, _, rfl, hr, _, _, rfl, rfl, rfl⟩⟩
theorem pr_assert' {xT t : TypeId} {x : Operand} {y : D} (hi : ifaceOK P t = true) (ho : o.op = .typeAssert x xT t true) (hx : evP S x = .d (.iface t y)) : PureRun P o S (.d (.tuple [y, .val (.bool true)])) := by
  unfold ifaceOK at hi
  cases hd : P.underlying t with
  | none => rw [hd] at hi; cases hi
  | some d =>
    rw [hd] at hi
    refine pr_assert ho hd ?_ hx
    cases d <;> first | rfl | cases hi
variable {frz : List Nat} {k : PV → HM → Nat → List Nat → List Nat → Prop}
theorem sf_ifnil {t u : TypeId} {ms : Array (String × TypeId)} {x y : Operand} {t' : TypeId} {z : D} (ho : o.op = .binOp .eql t x y u) (ht : P.underlying t = some (.interface ms)) (hx : evP S x = .d (.iface t' z)) (hy : evP S y = .d (.val .nilIface)) (hk : k (.d (.val (.bool false))) H nx [] []) : stepF P frz o ⟨S, H, nx, df⟩ k := by
  unfold stepF; rw [ho]
  simp only [isEq, aggy, hx, hy, Bool.and_false, Bool.false_eq_true, if_false, binX, eqlX, ht]
  exact ⟨trivial, hk⟩
end

/-! ### A choice that itself waits for a test -/
section
variable {ops : Array Oper} {o : Oper} {r : List Oper} {S : Nat → PV} {H : HM} {nx : Nat} {df : List (Nat × List PV)}
theorem step_gp {c x y : Operand} {g gc gx gy b u v : Bool} (hn : ∀ i, nx ≤ i → H i = none) (hg : guardP ops o S = some g) (ho : o.op = .pick c x y) (hc : asCond (evP S c) = (gc, .d (.val (.bool b)))) (hx : asCond (evP S x) = (gx, .d (.val (.bool u)))) (hy : asCond (evP S y) = (gy, .d (.val (.bool v))))
    (h0 : g = true → gc = true) (h1 : g = true → b = true → gx = true) (h2 : g = true → b = false → gy = true) : StepOp P ops o ⟨S, H, nx, df⟩ (.cond g (.d (.val (.bool (bif b then u else v))))) H ⟨[], [], nx, nx⟩ := by
  refine .gd hg (by simp) ?_
  rintro rfl
  refine ⟨unT S, fun z _ m ρ w hr => by rw [evP_unT]; exact unC_rep hr, ?_⟩
  have key : ∀ (z : Operand) (gz q : Bool), asCond (evP S z) = (gz, .d (.val (.bool q))) → (gz = true → evP (unT S) z = .d (.val (.bool q))) ∧ (asCond (evP (unT S) z)).2 = .d (.val (.bool q)) := by
    intro z gz q hz
    rw [evP_unT]
    cases hp : evP S z with
    | cond b' p' =>
      rw [hp] at hz
      simp only [asCond, Prod.mk.injEq] at hz
      obtain ⟨rfl, rfl⟩ := hz
      cases b' with
      | true => exact ⟨fun _ => rfl, rfl⟩
      | false => exact ⟨(fun h => nomatch h), rfl⟩
    | _ => rw [hp] at hz; simp only [asCond, Prod.mk.injEq] at hz; obtain ⟨rfl, hz⟩ := hz; first | (cases hz; done) | (rw [← hz]; exact ⟨fun _ => rfl, rfl⟩)
  have kc := (key c gc b hc).1 (h0 rfl)
  have hpk : pickP (evP (unT S) c) (evP (unT S) x) (evP (unT S) y) = (.d (.val (.bool (bif b then u else v))), (b = true → (asCond (evP (unT S) x)).1 = true) ∧ (b = false → (asCond (evP (unT S) y)).1 = true)) := by
    unfold pickP
    rw [kc, (key x gx u hx).2, (key y gy v hy).2]
  have hs : PureRun P o (unT S) (pickP (evP (unT S) c) (evP (unT S) x) (evP (unT S) y)).1 := by
    refine pick_sound ho ?_
    rw [hpk]
    refine ⟨fun hb => ?_, fun hb => ?_⟩
    · rw [(key x gx u hx).1 (h1 rfl hb)]; rfl
    · rw [(key y gy v hy).1 (h2 rfl hb)]; rfl
  rw [hpk] at hs
  exact pure_step (s := ⟨unT S, H, nx, df⟩) hn hs.op
variable {c x y : Operand} {g gc gx gy b u v : Bool}
theorem XK.gp {Q : PX → St → Prop} (d : Option Nat) (hd : o.dst = d) (hg : guardP ops o S = some g) (ho : o.op = .pick c x y) (hc : asCond (evP S c) = (gc, .d (.val (.bool b)))) (hx : asCond (evP S x) = (gx, .d (.val (.bool u)))) (hy : asCond (evP S y) = (gy, .d (.val (.bool v))))
    (h0 : g = true → gc = true) (h1 : g = true → b = true → gx = true) (h2 : g = true → b = false → gy = true) (w : Bool) (hw : (bif b then u else v) = w) (k : XK P ops r ⟨putS S d (.cond g (.d (.val (.bool w)))), H, nx, df⟩ Q) : XK P ops (o :: r) ⟨S, H, nx, df⟩ Q := by
  subst hd hw; exact fun hn => .step (step_gp hn hg ho hc hx hy h0 h1 h2) (k hn)
theorem RQ.gp {Q : St → Prop} (d : Option Nat) (hd : o.dst = d) (hg : guardP ops o S = some g) (ho : o.op = .pick c x y) (hc : asCond (evP S c) = (gc, .d (.val (.bool b)))) (hx : asCond (evP S x) = (gx, .d (.val (.bool u)))) (hy : asCond (evP S y) = (gy, .d (.val (.bool v))))
    (h0 : g = true → gc = true) (h1 : g = true → b = true → gx = true) (h2 : g = true → b = false → gy = true) (w : Bool) (hw : (bif b then u else v) = w) (k : RQ P ops r ⟨putS S d (.cond g (.d (.val (.bool w)))), H, nx, df⟩ Q) : RQ P ops (o :: r) ⟨S, H, nx, df⟩ Q := by
  subst hd hw
  intro hn
  obtain ⟨s', L, h4, h5, h6⟩ := k hn
  refine ⟨s', _, .cons (step_gp hn hg ho hc hx hy h0 h1 h2) h4, ?_, h6⟩
  intro R hR
  rcases List.mem_cons.1 hR with rfl | hR
  · exact ⟨rfl, rfl⟩
  · exact h5 R hR
theorem RK.gp {acc : List Rec} {K : St → List Rec → Prop} (d : Option Nat) (hd : o.dst = d) (hg : guardP ops o S = some g) (ho : o.op = .pick c x y) (hc : asCond (evP S c) = (gc, .d (.val (.bool b)))) (hx : asCond (evP S x) = (gx, .d (.val (.bool u)))) (hy : asCond (evP S y) = (gy, .d (.val (.bool v))))
    (h0 : g = true → gc = true) (h1 : g = true → b = true → gx = true) (h2 : g = true → b = false → gy = true) (w : Bool) (hw : (bif b then u else v) = w) (k : RK P ops r ⟨putS S d (.cond g (.d (.val (.bool w)))), H, nx, df⟩ (⟨[], [], nx, nx⟩ :: acc) K) : RK P ops (o :: r) ⟨S, H, nx, df⟩ acc K := by
  subst hd hw
  intro hn
  obtain ⟨s', L, h4, h5⟩ := k hn
  exact ⟨s', _, .cons (step_gp hn hg ho hc hx hy h0 h1 h2) h4, by simpa using h5⟩
theorem bif_and (b u : Bool) : (bif b then u else false) = (b && u) := by cases b <;> rfl
theorem bif_or (b v : Bool) : (bif b then true else v) = (b || v) := by cases b <;> rfl
end

/-! ### What the steps come to, as a function -/
section
variable {C R' : Type} {step : C → Option (C ⊕ R')}
theorem run_mono : ∀ (n k : Nat) (c : C) (r : R'), run step n c = some r → run step (n + k) c = some r
  | 0, _, _, _, h => by cases h
  | n + 1, k, c, r, h => by
    rw [show n + 1 + k = (n + k) + 1 by omega]
    simp only [run] at h ⊢
    cases hs : step c with
    | none => rw [hs] at h; cases h
    | some x =>
      rw [hs] at h
      cases x with
      | inl c' => exact run_mono n k c' r h
      | inr r' => exact h
theorem Comes.unique {c : C} {r r2 : R'} (h : Comes step c r) (k : Comes step c r2) : r = r2 := by
  obtain ⟨n, h⟩ := h
  obtain ⟨m, k⟩ := k
  have h1 := run_mono n m c r h
  have h2 := run_mono m n c r2 k
  rw [Nat.add_comm m n, h1] at h2
  exact Option.some.inj h2
open Classical in
/-- What the steps from c come to. -/
noncomputable def theC (step : C → Option (C ⊕ R')) (c : C) : Option R' := if h : ∃ r, Comes step c r then some (Classical.choose h) else none
theorem theC_get {c : C} {r : R'} (h : theC step c = some r) : Comes step c r := by
  unfold theC at h
  split at h
  · rename_i hx
    cases h
    exact Classical.choose_spec hx
  · cases h
theorem theC_eq {c : C} {r : R'} (h : Comes step c r) : theC step c = some r := by
  unfold theC
  rw [dif_pos ⟨r, h⟩]
  exact congrArg some (Comes.unique (Classical.choose_spec ⟨r, h⟩) h)
end
end Go.Proofs.Ytonlehebfeilmaa.K
