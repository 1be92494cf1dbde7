/- A function's law over closed data; its call; its proof out of its body. -/
import Derived.Test.YtonlehebfeilmaaK14
namespace Go.Proofs.Ytonlehebfeilmaa.K
open Go Go.RowKit

variable {P : Program}

/-- Function f, given args, answers res; of what was there nothing has turned. -/
def Fun (P : Program) (f : Nat) (args : List D) (res : D) : Prop :=
  ∀ m w vs, MemOK m w → RepL m args vs → Calls P f ⟨vs⟩ w fun e w' => ∃ v m', e = .returned v ∧ RepD m' res v ∧ MemOK m' w' ∧ Ext (fun _ => False) m w m' w'

/-- The function has a body that a call enters. -/
def entersB (P : Program) (f : Nat) : Bool :=
  match P.funcs[f]? with
  | some fn => fn.body.isSome && !(fn.name == "runtime.NumGoroutine")
  | none => false

theorem run_callFunc {f : Nat} (h : entersB P f = true) (args : Array Value) (w : World) : (callFunc f args).run P w = .ok (.enter f args) w := by
  unfold entersB at h
  cases hf : P.funcs[f]? with
  | none => simp [hf] at h
  | some fn =>
    simp only [hf, Bool.and_eq_true, Bool.not_eq_true'] at h
    obtain ⟨h1, h2⟩ := h
    have h2' : ¬ (fn.name = "runtime.NumGoroutine") := by simpa using h2
    have h3 : fn.body ≠ none := by intro hb; simp [hb] at h1
    simp [callFunc, hf, h2', h3]

theorem run_call_func {o : Oper} {a : Act} {w : World} {c : Call} {f : Nat} (ho : o.op = .call c) (hc : c.callee = .value (.func f)) (h : entersB P f = true) : (execOp a.eval o).run P w = .ok (.enter f (c.args.map a.eval)) w := by
  obtain ⟨dst, op', type, pos, after, guard⟩ := o
  simp only at ho
  subst ho
  obtain ⟨callee, args, argTypes⟩ := c
  simp only at hc
  subst hc
  simp [execOp, resolve, Deferred.ofValue, Act.eval, invoke, run_callFunc h]

theorem run_call_clo {o : Oper} {a : Act} {w : World} {c : Call} {t : Operand} {f : Nat} {caps : Array Value} (ho : o.op = .call c) (hc : c.callee = .value t) (ht : a.eval t = .func (.func f) #[] caps) (h : entersB P f = true) :
    (execOp a.eval o).run P w = .ok (.enter f (c.args.map a.eval ++ caps)) w := by
  obtain ⟨dst, op', type, pos, after, guard⟩ := o
  simp only at ho
  subst ho
  obtain ⟨callee, args, argTypes⟩ := c
  simp only at hc
  subst hc
  simp [execOp, resolve, ht, Deferred.ofValue, invoke, run_callFunc h]

theorem repL_evals {S : Nat → PV} {m : Mem} {ρ : Ren} {a : Act} {l : List Operand} {ds : List D} (hx : ∀ x ∈ l, Rep m ρ (evP S x) (a.eval x)) (hd : PV.toDs (l.map (evP S)) = some ds) : RepL m ds (l.map a.eval) := by
  refine RepP.toDs (ρ := ρ) _ _ _ hd ?_
  have : ∀ (l : List Operand), (∀ x ∈ l, Rep m ρ (evP S x) (a.eval x)) → RepP m ρ (l.map (evP S)) (l.map a.eval) := by
    intro l
    induction l with
    | nil => intro _; simp [RepP]
    | cons x r ih => intro h; simp only [List.map_cons, RepP]; exact ⟨_, _, rfl, h x (List.mem_cons_self ..), ih fun y hy => h y (List.mem_cons_of_mem _ hy)⟩
  exact this l hx

theorem call_fun {o : Oper} {S : Nat → PV} {c : Call} {f : Nat} (ho : o.op = .call c) (hc : c.callee = .value (.func f)) (he : entersB P f = true) {ds : List D} (hd : PV.toDs (c.args.toList.map (evP S)) = some ds) {res : D} (hF : Fun P f ds res) : PureOp P o S (.d res) := by
  intro m ρ a w K Q hm hx hK
  have h1 : ∀ x ∈ c.args.toList, Rep m ρ (evP S x) (a.eval x) := fun x hx' => hx x (by simp only [ho, Op.operands, Call.operands]; simp only [Array.mem_append]; exact .inr (by simpa using hx'))
  unfold Oper.wp
  rw [run_call_func ho hc he, Oper.upon_enter]
  have hr := repL_evals h1 hd
  have := hF m w _ hm hr
  have e : (⟨c.args.toList.map a.eval⟩ : Array Value) = c.args.map a.eval := by apply Array.ext'; simp
  rw [e] at this
  refine this.mono ?_
  rintro e w' ⟨v, m', rfl, hv, hm', hE⟩
  exact hK v m' w' hm' hE (by simpa [Rep] using hv)

theorem call_clo {o : Oper} {S : Nat → PV} {c : Call} {t : Operand} {f : Nat} {caps : List D} (ho : o.op = .call c) (hc : c.callee = .value t) (ht : evP S t = .d (.clo f caps)) (he : entersB P f = true) {ds : List D} (hd : PV.toDs (c.args.toList.map (evP S)) = some ds) {res : D}
    (hF : Fun P f (ds ++ caps) res) : PureOp P o S (.d res) := by
  intro m ρ a w K Q hm hx hK
  have h1 : ∀ x ∈ c.args.toList, Rep m ρ (evP S x) (a.eval x) := fun x hx' => hx x (by simp only [ho, Op.operands, Call.operands]; simp only [Array.mem_append]; exact .inr (by simpa using hx'))
  have h2 := hx t (by simp [ho, Op.operands, Call.operands, hc])
  rw [ht] at h2
  simp only [Rep, RepD] at h2
  obtain ⟨cs, hcv, hcs⟩ := h2
  unfold Oper.wp
  rw [run_call_clo ho hc hcv he, Oper.upon_enter]
  have hr := repL_append (repL_evals h1 hd) hcs
  have := hF m w _ hm hr
  have e : (⟨c.args.toList.map a.eval ++ cs⟩ : Array Value) = c.args.map a.eval ++ ⟨cs⟩ := by apply Array.ext'; simp
  rw [e] at this
  refine this.mono ?_
  rintro e w' ⟨v, m', rfl, hv, hm', hE⟩
  exact hK v m' w' hm' hE (by simpa [Rep] using hv)

/-! ### Results -/

def resP1 (P : Program) (s : St) : ResultVar → PV × Prop
  | .tmp t => (s.S t, True)
  | .cell a t => match s.S a with
    | .vptr ix off => match s.H ix with
      | some (.var l) => loadV (tyA P t) l off
      | _ => (.junk, False)
    | _ => (.junk, False)

def resP (P : Program) (rs : List ResultVar) (s : St) : PV × Prop :=
  match rs with
  | [r] => resP1 P s r
  | rs => (.tuple (rs.map fun r => (resP1 P s r).1), ∀ r ∈ rs, (resP1 P s r).2)

def resSem (tmps : Array Value) : ResultVar → Sem Value
  | .tmp t => pure (tmps.getD t undef)
  | .cell x t => do loadVar t (← asAddr (tmps.getD x undef))

theorem run_res1 {N : Nat} {s : St} {m : Mem} {ρ : Ren} {a : Act} {w : World} (hI : Inv N s m ρ a w) {r : ResultVar} (h : (resP1 P s r).2) :
    ∃ v, (resSem a.tmps r).run P w = .ok v w ∧ Rep m ρ (resP1 P s r).1 v := by
  cases r with
  | tmp t => exact ⟨_, rfl, hI.slots t⟩
  | cell x t =>
    unfold resP1 at h ⊢
    have hs := hI.slots x
    cases hx : s.S x with
    | vptr ix off =>
      simp only [hx] at h hs ⊢
      cases hH : s.H ix with
      | none => simp [hH] at h
      | some ob =>
        cases ob with
        | spare => simp [hH] at h
        | var l =>
          simp only [hH] at h ⊢
          simp only [Rep] at hs
          obtain ⟨b, c, hr, ev⟩ := hs
          obtain ⟨b', c', vs, tb, hr', hb, hl, hone, _⟩ := hI.valid.entry ix _ trivial hH
          rw [hr] at hr'; cases hr'
          unfold loadV at h ⊢
          cases ht : tyA P t with
          | none => simp [ht] at h
          | some an =>
            obtain ⟨ag, n⟩ := an
            simp only [ht] at h ⊢
            obtain ⟨u, hu, hrep⟩ := run_loadVar_own (P := P) hb hl hone ht h.1 h.2
            refine ⟨u, ?_, hrep⟩
            simp only [resSem, ev, asAddr, Sem.run_bind, Sem.run_pure, Result.andThen_ok, hu]
    | _ => simp [hx] at h

theorem run_results {N : Nat} {fn : Func} {s : St} {m : Mem} {ρ : Ren} {a : Act} {w : World} (hI : Inv N s m ρ a w) (h : (resP P fn.results.toList s).2) :
    ∃ v, (results fn a.tmps).run P w = .ok v w ∧ Rep m ρ (resP P fn.results.toList s).1 v := by
  have all : ∀ (rs : List ResultVar), (∀ r ∈ rs, (resP1 P s r).2) → ∃ vs : List Value, (rs.mapM (resSem a.tmps)).run P w = .ok vs w ∧ RepP m ρ (rs.map fun r => (resP1 P s r).1) vs := by
    intro rs
    induction rs with
    | nil => intro _; exact ⟨[], rfl, by simp [RepP]⟩
    | cons r rs ih =>
      intro hr
      obtain ⟨v, h1, h2⟩ := run_res1 (P := P) hI (hr r (List.mem_cons_self ..))
      obtain ⟨vs, h3, h4⟩ := ih fun r' hr' => hr r' (List.mem_cons_of_mem _ hr')
      refine ⟨v :: vs, ?_, by simp only [List.map_cons, RepP]; exact ⟨v, vs, rfl, h2, h4⟩⟩
      rw [List.mapM_cons, Sem.run_bind, h1, Result.andThen_ok, Sem.run_bind, h3, Result.andThen_ok]
      rfl
  have hall : ∀ r ∈ fn.results.toList, (resP1 P s r).2 := by
    unfold resP at h
    split at h
    · rename_i r e
      intro r' hr'
      rw [e] at hr'
      simp at hr'
      subst hr'
      exact h
    · exact h
  obtain ⟨vs, h1, h2⟩ := all _ hall
  have hrun : (results fn a.tmps).run P w = .ok (if h : vs.toArray.size = 1 then vs.toArray[0] else .tuple vs.toArray) w := by
    have e : results fn a.tmps = (do let vs ← fn.results.mapM (resSem a.tmps); pure (if h : vs.size = 1 then vs[0] else .tuple vs)) := by
      unfold results
      congr 1
    rw [e, Array.mapM_eq_mapM_toList, Sem.run_bind, Sem.run_map, h1]
    rfl
  refine ⟨_, hrun, ?_⟩
  have hlen := repP_len h2
  unfold resP
  split
  · rename_i r e
    rw [e] at h2 hlen
    simp only [List.map_cons, List.map_nil, RepP] at h2
    obtain ⟨v, vr, rfl, h3, rfl⟩ := h2
    simpa using h3
  · rename_i hne
    have hl1 : vs.toArray.size ≠ 1 := by
      intro h1'
      have : fn.results.toList.length = 1 := by simpa using hlen.symm.trans (by simpa using h1')
      obtain ⟨r, hr⟩ := List.length_eq_one_iff.1 this
      exact hne r hr
    rw [dif_neg hl1]
    simp only [Rep]
    exact ⟨vs, rfl, h2⟩

/-! ### A function's law out of its body's -/

def initS (args : List D) : Nat → PV := fun t => match args[t]? with | some x => .d x | none => .junk

theorem init_inv {N : Nat} {args : List D} {m : Mem} {w : World} {vs : List Value} (hm : MemOK m w) (hr : RepL m args vs) (hN : args.length ≤ N) :
    Inv N ⟨initS args, fun _ => none, 0, []⟩ m (fun _ => none) { tmps := (⟨vs⟩ : Array Value) ++ Array.replicate (N - (⟨vs⟩ : Array Value).size) undef, defers := [] } w := by
  have hl := repL_len hr
  refine ⟨by simp; omega, rfl, fun t => ?_, ⟨hm, fun i o _ h => (by cases h), fun i j b c c' _ _ h _ _ _ => absurd rfl h⟩, fun _ _ => rfl, fun _ _ => rfl⟩
  show Rep m (fun _ => none) (match args[t]? with | some x => PV.d x | none => PV.junk) _
  cases ha : args[t]? with
  | none => simp [Rep]
  | some x =>
    have hlt : t < args.length := (List.getElem?_eq_some_iff.1 ha).1
    obtain ⟨v, h1, h2⟩ := repL_get hr hlt
    have hx : args.getD t default = x := by rw [List.getD_eq_getElem?_getD, ha]; rfl
    rw [hx] at h2
    simp only [Rep]
    have : ((⟨vs⟩ : Array Value) ++ Array.replicate (N - (⟨vs⟩ : Array Value).size) undef).getD t undef = v := by
      rw [Array.getD_eq_getD_getElem?, Array.getElem?_append_left (by simp; omega)]
      simp [h1]
    rw [this]
    exact h2

/-- What a body must end in. -/
def Ends (P : Program) (rs : List ResultVar) (post : PV → Prop) : PX → St → Prop := fun px s => (px = .normal ∨ px = .ret) ∧ s.df = [] ∧ (resP P rs s).2 ∧ post (resP P rs s).1

theorem Fun.of_body {f : Nat} {fn : Func} {c : Code} {args : List D} {res : D} (hf : P.funcs[f]? = some fn) (hb : fn.body = some c) (hN : args.length ≤ fn.ntmps)
    (h : PW P fn.ntmps c ⟨initS args, fun _ => none, 0, []⟩ (Ends P fn.results.toList fun p => p.toD = some res)) : Fun P f args res := by
  intro m w vs hm hr
  refine calls_of_wp hf hb (wp_mono (h m _ _ w (init_inv hm hr hN)) ?_)
  rintro e a w' ⟨px, s, m', ρ', ⟨hpx, hdf, hres, hp⟩, hrx, hI, hA⟩
  obtain ⟨v, hv, hrep⟩ := run_results (P := P) hI hres
  have hd := hI.defers
  rw [hdf] at hd
  have hE : Ext (fun _ => False) m w m' w' := hA.ext.mono (by rintro b ⟨i, c, _, h, _⟩; exact absurd rfl h)
  have key : a.defers = [] ∧ ∃ v, (results fn a.tmps).run P w' = .ok v w' ∧ ∃ v_1 m', Ending.returned v = .returned v_1 ∧ RepD m' res v_1 ∧ MemOK m' w' ∧ Ext (fun _ => False) m w m' w' :=
    ⟨hd, v, hv, v, m', rfl, Rep.toD _ _ _ hp hrep, hI.valid.mem, hE⟩
  rcases hpx with rfl | rfl <;> simp only [RX] at hrx <;> subst hrx <;> exact key

/-! ### Laws of calls that touch owned blocks, or panic -/

def RE (m : Mem) (ρ : Ren) : Out → Ending → Prop
  | .ret p, e => ∃ v, e = .returned v ∧ Rep m ρ p v
  | .pan p, e => ∃ v, e = .panicked [{ v := v, recovered := false }] ∧ Rep m ρ p v

def Spec (P : Program) (f : Nat) (args : List PV) (H : HM) (nx : Nat) (post : Out → HM → Nat → Prop) : Prop :=
  ∀ m ρ w vs, ValidOn (fun _ => True) m ρ w H → (∀ i, nx ≤ i → H i = none) → (∀ i, nx ≤ i → ρ i = none) → RepP m ρ args vs → Calls P f ⟨vs⟩ w fun e w' =>
    ∃ out H' nx' m' ρ', post out H' nx' ∧ ValidOn (fun _ => True) m' ρ' w' H' ∧ (∀ i, nx' ≤ i → H' i = none) ∧ (∀ i, nx' ≤ i → ρ' i = none) ∧ Adv nx m ρ w H nx' m' ρ' w' H' ∧ RE m' ρ' out e

theorem ValidOn.sub {m : Mem} {ρ : Ren} {w : World} {H H' : HM} (V : ValidOn (fun _ => True) m ρ w H) (h : ∀ i, H' i = none ∨ H' i = H i) : ValidOn (fun _ => True) m ρ w H' := by
  refine ⟨V.mem, fun i o _ e => V.entry i o trivial ?_, fun i j b c c' _ _ hi hj => V.apart i j b c c' trivial trivial ?_ ?_⟩
  · rcases h i with h' | h'
    · rw [h'] at e; cases e
    · rw [← h']; exact e
  · rcases h i with h' | h'
    · exact absurd h' hi
    · rw [← h']; exact hi
  · rcases h j with h' | h'
    · exact absurd h' hj
    · rw [← h']; exact hj

def initP (args : List PV) : Nat → PV := fun t => args.getD t .junk

theorem initP_inv {N nx : Nat} {args : List PV} {H : HM} {m : Mem} {ρ : Ren} {w : World} {vs : List Value} (V : ValidOn (fun _ => True) m ρ w H) (hn : ∀ i, nx ≤ i → H i = none) (hρ : ∀ i, nx ≤ i → ρ i = none) (hr : RepP m ρ args vs) (hN : args.length ≤ N) :
    Inv N ⟨initP args, H, nx, []⟩ m ρ { tmps := (⟨vs⟩ : Array Value) ++ Array.replicate (N - (⟨vs⟩ : Array Value).size) undef, defers := [] } w := by
  have hl := repP_len hr
  refine ⟨by simp; omega, rfl, fun t => ?_, V, hn, hρ⟩
  show Rep m ρ (args.getD t .junk) _
  by_cases hlt : t < args.length
  · obtain ⟨v, h1, h2⟩ := repP_get hr hlt
    have : ((⟨vs⟩ : Array Value) ++ Array.replicate (N - (⟨vs⟩ : Array Value).size) undef).getD t undef = v := by
      rw [Array.getD_eq_getD_getElem?, Array.getElem?_append_left (by simp; omega)]
      simp [h1]
    rw [this]
    exact h2
  · rw [List.getD_eq_getElem?_getD, List.getElem?_eq_none (by omega)]
    simp [Rep]

/-- What a body must end in, where owned blocks are touched, or a panic may come. -/
def EndsX (P : Program) (rs : List ResultVar) (post : Out → HM → Nat → Prop) : PX → St → Prop := fun px s =>
  s.df = [] ∧ match px with
  | .normal | .ret => (resP P rs s).2 ∧ ∃ H', (∀ i, H' i = none ∨ H' i = s.H i) ∧ post (.ret (resP P rs s).1) H' s.nx
  | .panic p => ∃ H', (∀ i, H' i = none ∨ H' i = s.H i) ∧ post (.pan p) H' s.nx
  | .exit _ => False

theorem Adv.sub {n0 n : Nat} {m0 m : Mem} {ρ0 ρ : Ren} {w0 w : World} {H0 H H' : HM} (A : Adv n0 m0 ρ0 w0 H0 n m ρ w H) (h : ∀ i, H' i = none ∨ H' i = H i) : Adv n0 m0 ρ0 w0 H0 n m ρ w H' := by
  refine ⟨A.ext, A.ren, ?_, A.le, A.old⟩
  rintro b ⟨i, c, ht, hl, hr⟩
  refine A.place b ⟨i, c, ht, ?_, hr⟩
  rcases h i with h' | h'
  · exact absurd h' hl
  · rw [← h']; exact hl

theorem Spec.of_body {f : Nat} {fn : Func} {c : Code} {args : List PV} {H : HM} {nx : Nat} {post : Out → HM → Nat → Prop} (hf : P.funcs[f]? = some fn) (hb : fn.body = some c) (hN : args.length ≤ fn.ntmps)
    (h : PW P fn.ntmps c ⟨initP args, H, nx, []⟩ (EndsX P fn.results.toList post)) : Spec P f args H nx post := by
  intro m ρ w vs V hn hρ hr
  refine calls_of_wp hf hb (wp_mono (h m ρ _ w (initP_inv V hn hρ hr hN)) ?_)
  rintro e a w' ⟨px, s, m', ρ', ⟨hdf, hpost⟩, hrx, hI, hA⟩
  have hd := hI.defers
  rw [hdf] at hd
  have hnil : ∀ {H' : HM}, (∀ i, H' i = none ∨ H' i = s.H i) → ∀ i, s.nx ≤ i → H' i = none := by
    intro H' hs i hi
    rcases hs i with h' | h'
    · exact h'
    · rw [h']; exact hI.hnil i hi
  have ret : (resP P fn.results.toList s).2 ∧ (∃ H', (∀ i, H' i = none ∨ H' i = s.H i) ∧ post (.ret (resP P fn.results.toList s).1) H' s.nx) →
      a.defers = [] ∧ ∃ v, (results fn a.tmps).run P w' = .ok v w' ∧ ∃ out H' nx' m' ρ', post out H' nx' ∧ ValidOn (fun _ => True) m' ρ' w' H' ∧ (∀ i, nx' ≤ i → H' i = none) ∧ (∀ i, nx' ≤ i → ρ' i = none) ∧ Adv nx m ρ w H nx' m' ρ' w' H' ∧ RE m' ρ' out (.returned v) := by
    rintro ⟨hres, H', hs, hp⟩
    obtain ⟨v, hv, hrep⟩ := run_results (P := P) hI hres
    exact ⟨hd, v, hv, _, H', s.nx, m', ρ', hp, hI.valid.sub hs, hnil hs, hI.rnil, hA.sub hs, v, rfl, hrep⟩
  cases px with
  | normal => simp only [RX] at hrx; subst hrx; exact ret hpost
  | ret => simp only [RX] at hrx; subst hrx; exact ret hpost
  | exit i => exact hpost.elim
  | panic p =>
    obtain ⟨v, rfl, hv⟩ := hrx
    obtain ⟨H', hs, hp⟩ := hpost
    exact ⟨hd, _, H', s.nx, m', ρ', hp, hI.valid.sub hs, hnil hs, hI.rnil, hA.sub hs, v, rfl, hv⟩

theorem xcall_spec {o : Oper} {s : St} {c : Call} {f : Nat} {post : Out → HM → Nat → Prop} (ho : o.op = .call c) (hc : c.callee = .value (.func f)) (he : entersB P f = true) (hS : Spec P f (c.args.toList.map (evP s.S)) s.H s.nx post) : XCall P o s post := by
  intro m ρ a w K Q V hn hρ hx h1 h2
  have hx' : ∀ x ∈ c.args.toList, Rep m ρ (evP s.S x) (a.eval x) := fun x hx' => hx x (by simp only [ho, Op.operands, Call.operands]; simp only [Array.mem_append]; exact .inr (by simpa using hx'))
  unfold Oper.wp
  rw [run_call_func ho hc he, Oper.upon_enter]
  have := hS m ρ w _ V hn hρ (repP_map_eval c.args.toList hx')
  have e : (⟨c.args.toList.map a.eval⟩ : Array Value) = c.args.map a.eval := by apply Array.ext'; simp
  rw [e] at this
  refine this.mono ?_
  rintro e w' ⟨out, H', nx', m', ρ', hp, V', hn', hr', hA, hre⟩
  cases out with
  | ret p => obtain ⟨v, rfl, hv⟩ := hre; exact h1 p H' nx' m' ρ' w' v hp V' hn' hr' hA hv
  | pan p => obtain ⟨v, rfl, hv⟩ := hre; exact h2 p H' nx' m' ρ' w' v hp V' hn' hr' hA hv

theorem xcall_clo {o : Oper} {s : St} {c : Call} {t : Operand} {f : Nat} {caps : List PV} {post : Out → HM → Nat → Prop} (ho : o.op = .call c) (hc : c.callee = .value t) (ht : evP s.S t = .clo f caps) (he : entersB P f = true)
    (hS : Spec P f (c.args.toList.map (evP s.S) ++ caps) s.H s.nx post) : XCall P o s post := by
  intro m ρ a w K Q V hn hρ hx h1 h2
  have hx' : ∀ x ∈ c.args.toList, Rep m ρ (evP s.S x) (a.eval x) := fun x hx' => hx x (by simp only [ho, Op.operands, Call.operands]; simp only [Array.mem_append]; exact .inr (by simpa using hx'))
  have h3 := hx t (by simp [ho, Op.operands, Call.operands, hc])
  rw [ht] at h3
  simp only [Rep] at h3
  obtain ⟨cs, hcv, hcs⟩ := h3
  unfold Oper.wp
  rw [run_call_clo ho hc hcv he, Oper.upon_enter]
  have := hS m ρ w _ V hn hρ (repP_append (repP_map_eval c.args.toList hx') hcs)
  have e : (⟨c.args.toList.map a.eval ++ cs⟩ : Array Value) = c.args.map a.eval ++ ⟨cs⟩ := by apply Array.ext'; simp
  rw [e] at this
  refine this.mono ?_
  rintro e w' ⟨out, H', nx', m', ρ', hp, V', hn', hr', hA, hre⟩
  cases out with
  | ret p => obtain ⟨v, rfl, hv⟩ := hre; exact h1 p H' nx' m' ρ' w' v hp V' hn' hr' hA hv
  | pan p => obtain ⟨v, rfl, hv⟩ := hre; exact h2 p H' nx' m' ρ' w' v hp V' hn' hr' hA hv

/-- What is nothing is a row of one's own. -/
theorem PW.buf {N : Nat} {c : Code} {s : St} {Q : PX → St → Prop} (t sz : Nat) (hs : s.S t = .full []) (h : PW P N c ⟨fun i => if i = t then .own s.nx [] else s.S i, fun i => if i = s.nx then some (.spare sz 0) else s.H i, s.nx + 1, s.df⟩ Q) : PW P N c s Q := by
  intro m ρ a w hI
  have hslot := hI.slots t
  rw [hs] at hslot
  simp only [Rep] at hslot
  obtain ⟨ad, ev, _⟩ := hslot
  have hI' : Inv N ⟨fun i => if i = t then .own s.nx [] else s.S i, fun i => if i = s.nx then some (.spare sz 0) else s.H i, s.nx + 1, s.df⟩ m ρ a w := by
    refine ⟨hI.size, hI.defers, fun i => ?_, ⟨hI.valid.mem, fun i o _ hH => ?_, fun i j b c c' _ _ hi hj hri hrj => ?_⟩, fun i hi => ?_, fun i hi => hI.rnil i (by have : s.nx + 1 ≤ i := hi; omega)⟩
    · by_cases e : i = t
      · subst e
        simp only [if_true, Rep]
        exact .inr ⟨trivial, ad, ev⟩
      · simp only [e, if_false]; exact hI.slots i
    · by_cases e : i = s.nx
      · subst e
        simp only [if_true, Option.some.injEq] at hH
        subst hH
        exact .inl ⟨rfl, hI.rnil _ (Nat.le_refl _)⟩
      · simp only [e, if_false] at hH; exact hI.valid.entry i o trivial hH
    · have nn : ∀ k, (∃ b c, ρ k = some (b, c)) → k ≠ s.nx := by
        rintro k ⟨b, c, h⟩ e
        subst e
        rw [hI.rnil _ (Nat.le_refl _)] at h; cases h
      have e1 := nn i ⟨b, c, hri⟩
      have e2 := nn j ⟨b, c', hrj⟩
      simp only [e1, if_false] at hi
      simp only [e2, if_false] at hj
      exact hI.valid.apart i j b c c' trivial trivial hi hj hri hrj
    · have h1 : s.nx + 1 ≤ i := hi
      have : i ≠ s.nx := by omega
      simp only [this, if_false]
      exact hI.hnil i (by omega)
  refine wp_mono (h m ρ a w hI') ?_
  rintro e a' w' ⟨px, s', m', ρ', hq, hr, hI2, hA⟩
  have blk : ∀ b, Blk ρ (fun i => if i = s.nx then some (HO.spare sz 0) else s.H i) (fun _ => True) b → Blk ρ s.H (fun _ => True) b := by
    rintro b ⟨i, c, _, hl, hri⟩
    have : i ≠ s.nx := by intro e; subst e; rw [hI.rnil _ (Nat.le_refl _)] at hri; cases hri
    simp only [this, if_false] at hl
    exact ⟨i, c, trivial, hl, hri⟩
  exact ⟨px, s', m', ρ', hq, hr, hI2, ⟨hA.ext.mono blk, hA.ren, fun b hb => (hA.place b hb).imp (blk b) id, Nat.le_trans (Nat.le_succ _) hA.le, fun i hi => hA.old i (Nat.lt_succ_of_lt hi)⟩⟩

/-- A state is weakened. -/
theorem PW.weak {N : Nat} {c : Code} {s s' : St} {Q : PX → St → Prop} (hS : ∀ t m ρ v, Rep m ρ (s.S t) v → Rep m ρ (s'.S t) v) (hH : s'.H = s.H) (hn : s'.nx = s.nx) (hd : s'.df = s.df) (h : PW P N c s' Q) : PW P N c s Q := by
  intro m ρ a w hI
  have := h m ρ a w ⟨hI.size, by rw [hd]; exact hI.defers, fun t => hS t _ _ _ (hI.slots t), by rw [hH]; exact hI.valid, by rw [hH, hn]; exact hI.hnil, by rw [hn]; exact hI.rnil⟩
  rw [hH, hn] at this
  exact this
end Go.Proofs.Ytonlehebfeilmaa.K
