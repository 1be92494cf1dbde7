/- Functions that defer a call which recovers. -/
import Derived.Test.YtonlehebfeilmaaK34
import Derived.Recover
namespace Go.Proofs.Ytonlehebfeilmaa.K
open Go Go.RowKit

variable {P : Program} {N b : Nat}

/-- How the frame that panics (or not) stands when f is called by it, deferred. -/
def ModeIs (m : Mem) : Option D → FrameMode → Prop
  | none, u => u = .returning
  | some d, u => ∃ v, RepD m d v ∧ u = .panicking [{ v := v, recovered := false }]

/-- f, deferred, over the blocks M, where x is being panicked: it returns, and the panic ends. -/
def DLaw (P : Program) (f : Nat) (args : List PV) (M : List HO) (x : Option D) (M' : List HO) : Prop :=
  ∀ m ρ w vs u, ValidOn (fun _ => True) m ρ w (tabH M) → (∀ i, M.length ≤ i → tabH M i = none) → (∀ i, M.length ≤ i → ρ i = none) → RepP m ρ args vs → ModeIs m x u →
    CallsD P f ⟨vs⟩ u w fun e u' w' => ∃ v m' ρ', e = .returned v ∧ settle u' = .returning ∧ ValidOn (fun _ => True) m' ρ' w' (tabH M') ∧ (∀ i, M'.length ≤ i → ρ' i = none) ∧ Adv M.length m ρ w (tabH M) M'.length m' ρ' w' (tabH M')

def recV : Option D → PV
  | none => .d (.val .nilIface)
  | some d => .d d

section
variable {ops : Array Oper} {Q : Exit → Act → List Frame → World → Prop} {i : Nat} {l : List Nat} {a : Act} {cs cs' : List Frame} {w : World} {o : Oper} {v : Value}
theorem wpOpsS_rec (ho : ops[i]? = some o) (hw : Region.wanted o (yielded ops a.tmps) = true) (hr : (execOp a.eval o).run P w = .ok .recover w) (h : (match recoverD cs with | some x => x | none => (.nilIface, cs)) = (v, cs'))
    (k : wpOpsS P ops Q l (a.put o.dst v) cs' w) : wpOpsS P ops Q (i :: l) a cs w := by
  unfold wpOpsS
  simp only [ho, hw, if_true, hr]
  cases hc : recoverD cs with
  | none => rw [hc] at h; cases h; exact k
  | some x => rw [hc] at h; simp only at h; subst h; exact k
theorem wpOpsS_val (ho : ops[i]? = some o) (hw : Region.wanted o (yielded ops a.tmps) = true) (hr : (execOp a.eval o).run P w = .ok (.value v) w) (k : wpOpsS P ops Q l (a.put o.dst v) cs w) : wpOpsS P ops Q (i :: l) a cs w := by
  unfold wpOpsS
  simp only [ho, hw, if_true, hr]
  exact k
end

theorem DLaw.of_body {fd : Nat} {fn : Func} {id t t2 : Nat} {o0 o1 : Oper} {rest : Code} {c0 : Call} {args : List PV} {M M' : List HO} {r : PV} (x : Option D) (hf : P.funcs[fd]? = some fn) (hb : fn.body = some (.seq (.region id #[o0, o1] false) rest))
    (h0 : o0.op = .call c0) (hc0 : c0.callee = .builtin .recover) (g0 : o0.guard = none) (g1 : o1.guard = none) (d0 : o0.dst = some t) (h1 : o1.op = .assign (.tmp t)) (d1 : o1.dst = some t2) (ht : t < fn.ntmps) (ht2 : t2 < fn.ntmps) (hN : args.length ≤ fn.ntmps)
    (h : QW P fn.ntmps M.length rest ⟨putS (putS (initP args) (some t) (recV x)) (some t2) (recV x), tabH M, M.length, []⟩ (EndsV P fn.results.toList fn.ntmps M.length (postX (.ret r) (tabH M') M'.length))) : DLaw P fd args M x M' := by
  intro m ρ w vs u V hnil hρ hr hu
  refine callsD_of_wpS hf hb ?_
  intro c₀ cs hm
  have hrun0 : ∀ a : Act, (execOp a.eval o0).run P w = .ok .recover w := by
    intro a
    obtain ⟨dst, op', type, pos, after, guard⟩ := o0
    simp only at h0
    subst h0
    obtain ⟨callee, cargs, argTypes⟩ := c0
    simp only at hc0
    subst hc0
    simp [execOp, resolve, invoke, builtin]
  have hrun1 : ∀ a : Act, (execOp a.eval o1).run P w = .ok (.value (a.tmps.getD t undef)) w := by
    intro a
    obtain ⟨dst, op', type, pos, after, guard⟩ := o1
    simp only at h1
    subst h1
    rfl
  have w0 : ∀ tm, Region.wanted o0 tm = true := fun tm => by unfold Region.wanted; simp only [g0]
  have w1 : ∀ tm, Region.wanted o1 tm = true := fun tm => by unfold Region.wanted; simp only [g1]
  -- what recover answers, and the mode behind it
  obtain ⟨v, u', hrec, hv, hset⟩ : ∃ v u', (match recoverD (c₀ :: cs) with | some x => x | none => (.nilIface, c₀ :: cs)) = (v, { c₀ with mode := u' } :: cs) ∧ Rep m ρ (recV x) v ∧ settle u' = .returning := by
    cases x with
    | none =>
      simp only [ModeIs] at hu
      subst hu
      refine ⟨.nilIface, .returning, ?_, by simp [recV, Rep, RepD], rfl⟩
      have hc : ({ c₀ with mode := FrameMode.returning } : Frame) = c₀ := by rw [← hm]
      simp only [recoverD, hm, hc]
    | some d =>
      obtain ⟨v, hv, rfl⟩ := hu
      refine ⟨v, .panicking [{ v := v, recovered := true }], ?_, by simpa [recV, Rep] using hv, rfl⟩
      simp only [recoverD, hm]
  refine wpS_seq (wpS_region ?_)
  show wpOpsS P #[o0, o1] _ [0, 1] _ _ _
  refine wpOpsS_rec (o := o0) rfl (w0 _) (hrun0 _) hrec ?_
  refine wpOpsS_val (o := o1) rfl (w1 _) (hrun1 _) ?_
  have hI := initP_inv V hnil hρ hr hN
  have hsz : ({ tmps := (⟨vs⟩ : Array Value) ++ Array.replicate (fn.ntmps - (⟨vs⟩ : Array Value).size) undef, defers := [] } : Act).tmps.size = fn.ntmps := hI.size
  generalize ({ tmps := (⟨vs⟩ : Array Value) ++ Array.replicate (fn.ntmps - (⟨vs⟩ : Array Value).size) undef, defers := [] } : Act) = a0 at hI hsz
  rw [d0, d1]
  have e1 : (a0.put (some t) v).tmps.getD t undef = v := by
    simp [Act.put, hsz, ht]
  rw [e1]
  have hI2 : Inv fn.ntmps ⟨putS (putS (initP args) (some t) (recV x)) (some t2) (recV x), tabH M, M.length, []⟩ m ρ ((a0.put (some t) v).put (some t2) v) w := by
    refine ⟨by simp [Act.put, hsz], by simpa [Act.put] using hI.defers, ?_, hI.valid, hI.hnil, hI.rnil⟩
    exact slots_put (N := fn.ntmps) (a := a0.put (some t) v) (by simp [Act.put, hsz]) (slots_put hsz hI.slots (some t) (fun d hd => by cases hd; exact ht) hv) (some t2) (fun d hd => by cases hd; exact ht2) hv
  show Code.wpS P rest _ _ _ _
  refine wpS_of_wp (wp_mono (h.2 m ρ _ w hI2) ?_)
  rintro e a' w' ⟨px, s, m', ρ', ⟨s', hview, hx, hpan⟩, hrx, hI', hA⟩
  obtain ⟨m2, ρ2, hI3, hA3⟩ := hview m' ρ' a' w' hI'
  have hA4 := (hA.trans hA3).toAdv hρ
  obtain ⟨hdf, hpost⟩ := hx
  have hd := hI3.defers
  rw [hdf] at hd
  have fin : (resP P fn.results.toList s').2 ∧ (∃ H', (∀ i, H' i = none ∨ H' i = s'.H i) ∧ postX (.ret r) (tabH M') M'.length (.ret (resP P fn.results.toList s').1) H' s'.nx) →
      a'.defers = [] ∧ ∃ u'', ({ c₀ with mode := u' } :: cs : List Frame) = { c₀ with mode := u'' } :: cs ∧ ∃ v, (results fn a'.tmps).run P w' = .ok v w' ∧
        ∃ v_1 m' ρ', Ending.returned v = .returned v_1 ∧ settle u'' = .returning ∧ ValidOn (fun _ => True) m' ρ' w' (tabH M') ∧ (∀ i, M'.length ≤ i → ρ' i = none) ∧ Adv M.length m ρ w (tabH M) M'.length m' ρ' w' (tabH M') := by
    rintro ⟨hres, H', hs, hp1, hp2, hp3⟩
    obtain ⟨vv, hvv, hrep⟩ := run_results (P := P) hI3 hres
    refine ⟨hd, u', rfl, vv, hvv, vv, m2, ρ2, rfl, hset, ?_, ?_, ?_⟩
    · rw [← hp2]; exact hI3.valid.sub hs
    · rw [← hp3]; exact hI3.rnil
    · rw [← hp2, ← hp3]; exact hA4.sub hs
  cases px with
  | normal => simp only [RX] at hrx; subst hrx; exact fin hpost
  | ret => simp only [RX] at hrx; subst hrx; exact fin hpost
  | exit i => exact hpost.elim
  | panic p =>
    obtain ⟨H', _, hp, _⟩ := hpost
    cases hp

theorem frame_D {H : HM} {nx : Nat} {f : Nat} {args : List PV} {M M' : List HO} {x : Option D} (F : List Nat) (hS : DLaw P f args M x M')
    (hF : F.length = M.length) (hd : F.Nodup) (hH : AtHR (fOf F nx) H M 0) (hle : M.length ≤ M'.length) :
    ∀ (m : Mem) (ρ : Ren) (w : World) (vs : List Value) (u : FrameMode), ValidOn (fun _ => True) m ρ w H → (∀ i, nx ≤ i → H i = none) → (∀ i, nx ≤ i → ρ i = none) → RepP m ρ (PV.res (fOf F nx) args) vs → ModeIs m x u →
      CallsD P f ⟨vs⟩ u w fun e u' w' => ∃ v m' ρ', e = .returned v ∧ settle u' = .returning ∧ ValidOn (fun _ => True) m' ρ' w' (putsR (fIn F M.length nx) M' 0 H) ∧ (∀ i, nx + (M'.length - M.length) ≤ i → putsR (fIn F M.length nx) M' 0 H i = none) ∧ (∀ i, nx + (M'.length - M.length) ≤ i → ρ' i = none) ∧
        Adv nx m ρ w H (nx + (M'.length - M.length)) m' ρ' w' (putsR (fIn F M.length nx) M' 0 H) := by
  intro m ρ w vs u V hn hρ hr hu
  obtain ⟨⟨Vs, hnil0, hbig⟩, tr⟩ := frame_tr (M' := M') F hF hd hH hle V hn hρ
  refine (hS m (fun i => ρ (fOf F nx i)) w vs u Vs hnil0 hbig (RepP.re args vs hr) hu).mono ?_
  rintro e u' w' ⟨v, m', ρ', rfl, hset, V', hρ', hA⟩
  obtain ⟨ρ2, h1, h2, h3, h4, _⟩ := tr m' ρ' w' V' hρ' hA
  exact ⟨v, m', ρ2, rfl, hset, h1, h2, h3, h4⟩

theorem XK.df {ops : Array Oper} {o : Oper} {r : List Oper} {S : Nat → PV} {H : HM} {nx : Nat} {df : List (Nat × List PV)} {Q : PX → St → Prop} {c : Call} {f : Nat} {L : List PV} (d : Option Nat) (hd : o.dst = d) (hg : o.guard = none) (ho : o.op = .defer c) (hc : c.callee = .value (.func f)) (ha : c.args.toList.map (evP S) = L)
    (h : XK P ops r ⟨putS S d .junk, H, nx, (f, L) :: df⟩ Q) : XK P ops (o :: r) ⟨S, H, nx, df⟩ Q := by
  subst hd ha
  exact XK.defer hg ho hc h

/-- What a body must end in that has deferred fd of the variable id. -/
def EndsD (P : Program) (rs : List ResultVar) (fd : Nat) (res : D) (px : PX) (s : St) : Prop :=
  ∃ id p0, s.df = [(fd, [.vptr id 0])] ∧ s.H id = some (.var [p0]) ∧ ∃ x p1, DLaw P fd [.vptr 0 0] [.var [p0]] x [.var [p1]] ∧ p0.re (fOf [id] s.nx) = p0 ∧ p1.re (fIn [id] 1 s.nx) = p1 ∧
    (match px with
     | .normal | .ret => x = none
     | .panic p => ∃ d, x = some d ∧ p = .d d
     | .exit _ => False) ∧
    (resP P rs ⟨s.S, putH s.H id (some (.var [p1])), s.nx, []⟩).2 ∧ (resP P rs ⟨s.S, putH s.H id (some (.var [p1])), s.nx, []⟩).1.toD = some res

theorem Fun.of_bodyD {f : Nat} {fn : Func} {c : Code} {args : List D} {fd : Nat} {res : D} (hf : P.funcs[f]? = some fn) (hb : fn.body = some c) (hN : args.length ≤ fn.ntmps) (hfd : entersB P fd = true)
    (h : QW P fn.ntmps 0 c ⟨initS args, fun _ => none, 0, []⟩ (EndsD P fn.results.toList fd res)) : Fun P f args res := by
  intro m w vs hm hr
  refine calls_of_wp_defers hf hb (wp_mono (h.2 m _ _ w (init_inv hm hr hN)) ?_)
  rintro e a w' ⟨px, s, m', ρ', ⟨id, p0, hdf, hH, x, p1, hL, hp0, hp1, hx, hres, hD⟩, hrx, hI, hA⟩
  have hdd := hI.defers
  rw [hdf] at hdd
  obtain ⟨d, l', hd1, hd2, hd3, hd4⟩ := hdd
  simp only [DfOK] at hd4
  subst hd4
  obtain ⟨tgt, dargs⟩ := d
  simp only at hd2 hd3
  subst hd2
  have hlen : ∀ (u : FrameMode), u ≠ .run → ModeIs m' x u → Leaves P fn a.tmps (fun e w' => ∃ v m', e = .returned v ∧ RepD m' res v ∧ MemOK m' w' ∧ Ext (fun _ => False) m w m' w') a.defers u w' := by
    intro u hu hmode
    rw [hd1]
    refine leaves_cons (f := fd) (args := dargs) hu ?_ ?_
    · simp only [invoke, Array.append_empty]
      exact run_callFunc hfd _ _
    · have hidl : id < s.nx := by
        rcases Nat.lt_or_ge id s.nx with h1 | h1
        · exact h1
        · rw [hI.hnil _ h1] at hH; cases hH
      have hfr := frame_D (P := P) (nx := s.nx) (H := s.H) [id] hL rfl (by simp) ⟨by show s.H id = some (.var (PV.res _ [p0])); rw [hH]; simp only [PV.res]; rw [hp0], trivial⟩ (Nat.le_refl _)
        m' ρ' w' dargs.toList u hI.valid hI.hnil hI.rnil (by simpa [PV.res, PV.re, fOf] using hd3) hmode
      refine CallsD.mono hfr ?_
      rintro e u' w2 ⟨v, m2, ρ2, rfl, hset, V2, hn2, hr2, hA2⟩
      have eH : putsR (fIn [id] [HO.var [p0]].length s.nx) [HO.var [p1]] 0 s.H = putH s.H id (some (.var [p1])) := by
        show putH s.H (fIn [id] 1 s.nx 0) (some (.var (PV.res (fIn [id] 1 s.nx) [p1]))) = _
        simp only [PV.res]
        rw [hp1]; rfl
      rw [eH] at V2 hn2 hA2
      have hI2 : Inv fn.ntmps ⟨s.S, putH s.H id (some (.var [p1])), s.nx, []⟩ m2 ρ2 { a with defers := [] } w2 :=
        ⟨hI.size, rfl, fun t => (hI.slots t).mono hA2.ext.mem hA2.ren, V2, hn2, hr2⟩
      obtain ⟨vv, hvv, hrep⟩ := run_results (P := P) hI2 hres
      have hE : Ext (fun _ => False) m w m2 w2 := (hA.ext.trans hA2.ext hA.place).mono (by rintro b ⟨i, c, _, h, _⟩; exact absurd rfl h)
      show Leaves P fn a.tmps _ [] (settle u') w2
      rw [hset]
      exact ⟨vv, hvv, vv, m2, rfl, Rep.toD _ _ _ hD hrep, V2.mem, hE⟩
  cases px with
  | normal => simp only [RX] at hrx; subst hrx; subst hx; exact hlen .returning (by simp) rfl
  | ret => simp only [RX] at hrx; subst hrx; subst hx; exact hlen .returning (by simp) rfl
  | exit i => exact hx.elim
  | panic p =>
    obtain ⟨v, rfl, hv⟩ := hrx
    obtain ⟨d, rfl, rfl⟩ := hx
    simp only [Rep] at hv
    exact hlen (.panicking _) (by simp) ⟨v, hv, rfl⟩
end Go.Proofs.Ytonlehebfeilmaa.K
