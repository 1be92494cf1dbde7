/- Regions, an operation at a time. -/
import Derived.Test.YtonlehebfeilmaaK19
namespace Go.Proofs.Ytonlehebfeilmaa.K
open Go Go.RowKit

variable {P : Program} {N : Nat} {ops : Array Oper} {o : Oper} {r : List Oper} {s : St}

/-- A slot under a test that held. -/
def unC : PV → PV
  | .cond true p => p
  | p => p
def unT (S : Nat → PV) : Nat → PV := fun t => unC (S t)

theorem unC_rep {m : Mem} {ρ : Ren} {p : PV} {v : Value} (h : Rep m ρ p v) : Rep m ρ (unC p) v := by
  unfold unC
  split
  · rw [Rep] at h; exact h.1 rfl
  · exact h

theorem unC_ofVal (v : Value) : unC (ofVal v) = ofVal v := by
  unfold ofVal
  split
  · rfl
  · split <;> rfl
  · rfl

theorem evP_unT (S : Nat → PV) (x : Operand) : evP (unT S) x = unC (evP S x) := by
  cases x with
  | tmp t => rfl
  | const v => simp only [evP, unC_ofVal]
  | global g => rfl
  | func f => rfl

/-- In the text's order. -/
def XK (P : Program) (ops : Array Oper) (r : List Oper) (s : St) (Q : PX → St → Prop) : Prop := (∀ i, s.nx ≤ i → s.H i = none) → RunX P ops r s Q

/-- Drawn, with records. -/
def RK (P : Program) (ops : Array Oper) (r : List Oper) (s : St) (acc : List Rec) (K : St → List Rec → Prop) : Prop :=
  (∀ i, s.nx ≤ i → s.H i = none) → ∃ s' L, Runs P ops r s s' L ∧ K s' (acc.reverse ++ L)

/-- Drawn, where no owned block turns. -/
def RQ (P : Program) (ops : Array Oper) (r : List Oper) (s : St) (Q : St → Prop) : Prop :=
  (∀ i, s.nx ≤ i → s.H i = none) → ∃ s' L, Runs P ops r s s' L ∧ (∀ R ∈ L, R.W = [] ∧ R.lo = R.hi) ∧ Q s'

theorem XK_congr {s' : St} {Q : PX → St → Prop} (h : s = s') : XK P ops r s Q = XK P ops r s' Q := by rw [h]
theorem RK_congr {s' : St} {acc acc' : List Rec} {K : St → List Rec → Prop} (h : s = s') (ha : acc = acc') : RK P ops r s acc K = RK P ops r s' acc' K := by rw [h, ha]
theorem RQ_congr {s' : St} {Q : St → Prop} (h : s = s') : RQ P ops r s Q = RQ P ops r s' Q := by rw [h]

theorem XK.nil {Q : PX → St → Prop} (h : Q .normal s) : XK P ops [] s Q := fun _ => .nil h
theorem RK.nil {acc : List Rec} {K : St → List Rec → Prop} (h : K s acc.reverse) : RK P ops [] s acc K := fun _ => ⟨s, [], .nil s, by simpa using h⟩
theorem RQ.nil {Q : St → Prop} (h : Q s) : RQ P ops [] s Q := fun _ => ⟨s, [], .nil s, by simp, h⟩

theorem XK.step {Q : PX → St → Prop} (hg : o.guard = none) (h : stepF P [] o s fun v H' nx' _ _ => XK P ops r ⟨putS s.S o.dst v, H', nx', s.df⟩ Q) : XK P ops (o :: r) s Q := by
  intro hn
  obtain ⟨v, H', nx', T, W, hs, hk⟩ := stepF_sound hn h
  exact .step (R := ⟨T, W, s.nx, nx'⟩) (.run hg hs) (hk hs.nil)
/-- A box that is written once, ahead of all that read it. -/
theorem XK.frozen {Q : PX → St → Prop} (hg : o.guard = none) (h : stepF P o.dst.toList o s fun v H' nx' _ _ => XK P ops r ⟨putS s.S o.dst v, H', nx', s.df⟩ Q) : XK P ops (o :: r) s Q := by
  intro hn
  obtain ⟨v, H', nx', T, W, hs, hk⟩ := stepF_sound hn h
  exact .step (R := ⟨T, W, s.nx, nx'⟩) (.run hg hs) (hk hs.nil)
theorem step_on {k : PV → Prop} (hn : ∀ i, s.nx ≤ i → s.H i = none) (hg : guardP ops o s.S = some true) (h : stepF P [] o ⟨unT s.S, s.H, s.nx, s.df⟩ fun v H' nx' _ W => (W = [] ∧ nx' = s.nx ∧ H' = s.H) ∧ k v) :
    ∃ v T, StepOp P ops o s (.cond true v) s.H ⟨T, [], s.nx, s.nx⟩ ∧ k v := by
  obtain ⟨v, H', nx', T, W, hs, ⟨rfl, rfl, rfl⟩, hk⟩ := stepF_sound (s := ⟨unT s.S, s.H, s.nx, s.df⟩) hn h
  exact ⟨v, T, .gd hg hs.old (fun _ => ⟨unT s.S, fun x _ m ρ u hr => by rw [evP_unT]; exact unC_rep hr, hs⟩), hk⟩
theorem XK.on {Q : PX → St → Prop} (hg : guardP ops o s.S = some true) (h : stepF P [] o ⟨unT s.S, s.H, s.nx, s.df⟩ fun v H' nx' _ W => (W = [] ∧ nx' = s.nx ∧ H' = s.H) ∧ XK P ops r ⟨putS s.S o.dst (.cond true v), s.H, s.nx, s.df⟩ Q) : XK P ops (o :: r) s Q := by
  intro hn
  obtain ⟨v, T, hs, hk⟩ := step_on hn hg h
  exact .step hs (hk hn)
theorem step_off (hg : guardP ops o s.S = some false) : StepOp P ops o s (.cond false (.d (.val (.bool false)))) s.H ⟨[], [], s.nx, s.nx⟩ := .gd hg (by simp) (fun h => by cases h)
theorem XK.off {Q : PX → St → Prop} (hg : guardP ops o s.S = some false) (h : XK P ops r ⟨putS s.S o.dst (.cond false (.d (.val (.bool false)))), s.H, s.nx, s.df⟩ Q) : XK P ops (o :: r) s Q := fun hn => .step (step_off hg) (h hn)
theorem XK.call {Q : PX → St → Prop} {c : Call} {f : Nat} {res : D} {ds : List D} (hg : o.guard = none) (ho : o.op = .call c) (hc : c.callee = .value (.func f)) (he : entersB P f = true) (hd : PV.toDs (c.args.toList.map (evP s.S)) = some ds) (hF : Fun P f ds res)
    (h : XK P ops r ⟨putS s.S o.dst (.d res), s.H, s.nx, s.df⟩ Q) : XK P ops (o :: r) s Q :=
  fun hn => .step (R := ⟨[], [], s.nx, s.nx⟩) (.run hg (pure_step hn (call_fun ho hc he hd hF))) (h hn)
theorem XK.callX {Q : PX → St → Prop} {c : Call} {f : Nat} {post : Out → HM → Nat → Prop} (hg : o.guard = none) (ho : o.op = .call c) (hc : c.callee = .value (.func f)) (he : entersB P f = true) (hS : Spec P f (c.args.toList.map (evP s.S)) s.H s.nx post)
    (k : ∀ p H' nx', post (.ret p) H' nx' → XK P ops r ⟨putS s.S o.dst p, H', nx', s.df⟩ Q) (kp : ∀ p H' nx', post (.pan p) H' nx' → Q (.panic p) ⟨s.S, H', nx', s.df⟩) : XK P ops (o :: r) s Q :=
  fun _ => .call hg (xcall_spec ho hc he hS) (fun p H' nx' hp hn' => k p H' nx' hp hn') kp
theorem XK.clo {Q : PX → St → Prop} {c : Call} {t : Operand} {f : Nat} {caps : List D} {res : D} {ds : List D} (hg : o.guard = none) (ho : o.op = .call c) (hc : c.callee = .value t) (ht : evP s.S t = .d (.clo f caps)) (he : entersB P f = true) (hd : PV.toDs (c.args.toList.map (evP s.S)) = some ds) (hF : Fun P f (ds ++ caps) res)
    (h : XK P ops r ⟨putS s.S o.dst (.d res), s.H, s.nx, s.df⟩ Q) : XK P ops (o :: r) s Q :=
  fun hn => .step (R := ⟨[], [], s.nx, s.nx⟩) (.run hg (pure_step hn (call_clo ho hc ht he hd hF))) (h hn)
theorem XK.cloX {Q : PX → St → Prop} {c : Call} {t : Operand} {f : Nat} {caps : List PV} {post : Out → HM → Nat → Prop} (hg : o.guard = none) (ho : o.op = .call c) (hc : c.callee = .value t) (ht : evP s.S t = .clo f caps) (he : entersB P f = true) (hS : Spec P f (c.args.toList.map (evP s.S) ++ caps) s.H s.nx post)
    (k : ∀ p H' nx', post (.ret p) H' nx' → XK P ops r ⟨putS s.S o.dst p, H', nx', s.df⟩ Q) (kp : ∀ p H' nx', post (.pan p) H' nx' → Q (.panic p) ⟨s.S, H', nx', s.df⟩) : XK P ops (o :: r) s Q :=
  fun _ => .call hg (xcall_clo ho hc ht he hS) (fun p H' nx' hp hn' => k p H' nx' hp hn') kp
theorem XK.dcloX {Q : PX → St → Prop} {c : Call} {t : Operand} {f : Nat} {caps : List D} {post : Out → HM → Nat → Prop} (hg : o.guard = none) (ho : o.op = .call c) (hc : c.callee = .value t) (ht : evP s.S t = .d (.clo f caps)) (he : entersB P f = true) (hS : Spec P f (c.args.toList.map (evP s.S) ++ caps.map .d) s.H s.nx post)
    (k : ∀ p H' nx', post (.ret p) H' nx' → XK P ops r ⟨putS s.S o.dst p, H', nx', s.df⟩ Q) (kp : ∀ p H' nx', post (.pan p) H' nx' → Q (.panic p) ⟨s.S, H', nx', s.df⟩) : XK P ops (o :: r) s Q :=
  fun _ => .call hg (xcall_dclo ho hc ht he hS) (fun p H' nx' hp hn' => k p H' nx' hp hn') kp
theorem XK.defer {Q : PX → St → Prop} {c : Call} {f : Nat} (hg : o.guard = none) (ho : o.op = .defer c) (hc : c.callee = .value (.func f)) (h : XK P ops r ⟨putS s.S o.dst .junk, s.H, s.nx, (f, c.args.toList.map (evP s.S)) :: s.df⟩ Q) : XK P ops (o :: r) s Q :=
  fun hn => .defer hg ho hc (h hn)

/-- A call under a test that holds. -/
theorem step_callOn {c : Call} {f : Nat} {res : D} {ds : List D} (hn : ∀ i, s.nx ≤ i → s.H i = none) (hg : guardP ops o s.S = some true) (ho : o.op = .call c) (hc : c.callee = .value (.func f)) (he : entersB P f = true)
    (hd : PV.toDs (c.args.toList.map (evP (unT s.S))) = some ds) (hF : Fun P f ds res) : StepOp P ops o s (.cond true (.d res)) s.H ⟨[], [], s.nx, s.nx⟩ :=
  .gd hg (by simp) fun _ => ⟨unT s.S, fun x _ m ρ u hr => by rw [evP_unT]; exact unC_rep hr, pure_step (s := ⟨unT s.S, s.H, s.nx, s.df⟩) hn (call_fun ho hc he hd hF)⟩
theorem XK.callOn {Q : PX → St → Prop} {c : Call} {f : Nat} {res : D} {ds : List D} (hg : guardP ops o s.S = some true) (ho : o.op = .call c) (hc : c.callee = .value (.func f)) (he : entersB P f = true)
    (hd : PV.toDs (c.args.toList.map (evP (unT s.S))) = some ds) (hF : Fun P f ds res) (h : XK P ops r ⟨putS s.S o.dst (.cond true (.d res)), s.H, s.nx, s.df⟩ Q) : XK P ops (o :: r) s Q :=
  fun hn => .step (step_callOn hn hg ho hc he hd hF) (h hn)
theorem RQ.callOn {Q : St → Prop} {c : Call} {f : Nat} {res : D} {ds : List D} (hg : guardP ops o s.S = some true) (ho : o.op = .call c) (hc : c.callee = .value (.func f)) (he : entersB P f = true)
    (hd : PV.toDs (c.args.toList.map (evP (unT s.S))) = some ds) (hF : Fun P f ds res) (h : RQ P ops r ⟨putS s.S o.dst (.cond true (.d res)), s.H, s.nx, s.df⟩ Q) : RQ P ops (o :: r) s Q := by
  intro hn
  obtain ⟨s', L, hr, hK, hQ⟩ := h hn
  refine ⟨s', _, .cons (step_callOn hn hg ho hc he hd hF) hr, ?_, hQ⟩
  intro R hR
  rcases List.mem_cons.1 hR with rfl | hR
  · exact ⟨rfl, rfl⟩
  · exact hK R hR
theorem RK.callOn {acc : List Rec} {K : St → List Rec → Prop} {c : Call} {f : Nat} {res : D} {ds : List D} (hg : guardP ops o s.S = some true) (ho : o.op = .call c) (hc : c.callee = .value (.func f)) (he : entersB P f = true)
    (hd : PV.toDs (c.args.toList.map (evP (unT s.S))) = some ds) (hF : Fun P f ds res) (h : RK P ops r ⟨putS s.S o.dst (.cond true (.d res)), s.H, s.nx, s.df⟩ (⟨[], [], s.nx, s.nx⟩ :: acc) K) : RK P ops (o :: r) s acc K := by
  intro hn
  obtain ⟨s', L, hr, hK⟩ := h hn
  exact ⟨s', _, .cons (step_callOn hn hg ho hc he hd hF) hr, by simpa using hK⟩

theorem RK.step {acc : List Rec} {K : St → List Rec → Prop} (hg : o.guard = none) (h : stepF P [] o s fun v H' nx' T W => RK P ops r ⟨putS s.S o.dst v, H', nx', s.df⟩ (⟨T, W, s.nx, nx'⟩ :: acc) K) : RK P ops (o :: r) s acc K := by
  intro hn
  obtain ⟨v, H', nx', T, W, hs, hk⟩ := stepF_sound hn h
  obtain ⟨s', L, hr, hK⟩ := hk hs.nil
  exact ⟨s', _, .cons (.run hg hs) hr, by simpa using hK⟩
theorem RK.on {acc : List Rec} {K : St → List Rec → Prop} (hg : guardP ops o s.S = some true) (h : stepF P [] o ⟨unT s.S, s.H, s.nx, s.df⟩ fun v H' nx' T W => (W = [] ∧ nx' = s.nx ∧ H' = s.H) ∧ RK P ops r ⟨putS s.S o.dst (.cond true v), s.H, s.nx, s.df⟩ (⟨T, [], s.nx, s.nx⟩ :: acc) K) : RK P ops (o :: r) s acc K := by
  intro hn
  obtain ⟨v, H', nx', T, W, hs, ⟨rfl, rfl, rfl⟩, hk⟩ := stepF_sound (s := ⟨unT s.S, s.H, s.nx, s.df⟩) hn h
  have hst : StepOp P ops o s (.cond true v) s.H ⟨T, [], s.nx, s.nx⟩ := .gd hg hs.old (fun _ => ⟨unT s.S, fun x _ m ρ u hr => by rw [evP_unT]; exact unC_rep hr, hs⟩)
  obtain ⟨s', L, hr, hK⟩ := hk hn
  exact ⟨s', _, .cons hst hr, by simpa using hK⟩
theorem RK.off {acc : List Rec} {K : St → List Rec → Prop} (hg : guardP ops o s.S = some false) (h : RK P ops r ⟨putS s.S o.dst (.cond false (.d (.val (.bool false)))), s.H, s.nx, s.df⟩ (⟨[], [], s.nx, s.nx⟩ :: acc) K) : RK P ops (o :: r) s acc K := by
  intro hn
  obtain ⟨s', L, hr, hK⟩ := h hn
  exact ⟨s', _, .cons (step_off hg) hr, by simpa using hK⟩
theorem RK.call {acc : List Rec} {K : St → List Rec → Prop} {c : Call} {f : Nat} {res : D} {ds : List D} (hg : o.guard = none) (ho : o.op = .call c) (hc : c.callee = .value (.func f)) (he : entersB P f = true) (hd : PV.toDs (c.args.toList.map (evP s.S)) = some ds) (hF : Fun P f ds res)
    (h : RK P ops r ⟨putS s.S o.dst (.d res), s.H, s.nx, s.df⟩ (⟨[], [], s.nx, s.nx⟩ :: acc) K) : RK P ops (o :: r) s acc K := by
  intro hn
  obtain ⟨s', L, hr, hK⟩ := h hn
  exact ⟨s', _, .cons (R := ⟨[], [], s.nx, s.nx⟩) (.run hg (pure_step hn (call_fun ho hc he hd hF))) hr, by simpa using hK⟩

theorem RQ.step {Q : St → Prop} (hg : o.guard = none) (h : stepF P [] o s fun v H' nx' _ W => (W = [] ∧ nx' = s.nx) ∧ RQ P ops r ⟨putS s.S o.dst v, H', nx', s.df⟩ Q) : RQ P ops (o :: r) s Q := by
  intro hn
  obtain ⟨v, H', nx', T, W, hs, ⟨hW, hx⟩, hk⟩ := stepF_sound hn h
  obtain ⟨s', L, hr, hK, hQ⟩ := hk hs.nil
  refine ⟨s', _, .cons (.run hg hs) hr, ?_, hQ⟩
  intro R hR
  rcases List.mem_cons.1 hR with rfl | hR
  · exact ⟨hW, hx.symm⟩
  · exact hK R hR
theorem RQ.on {Q : St → Prop} (hg : guardP ops o s.S = some true) (h : stepF P [] o ⟨unT s.S, s.H, s.nx, s.df⟩ fun v H' nx' _ W => (W = [] ∧ nx' = s.nx ∧ H' = s.H) ∧ RQ P ops r ⟨putS s.S o.dst (.cond true v), s.H, s.nx, s.df⟩ Q) : RQ P ops (o :: r) s Q := by
  intro hn
  obtain ⟨v, T, hs, hk⟩ := step_on hn hg h
  obtain ⟨s', L, hr, hK, hQ⟩ := hk hn
  refine ⟨s', _, .cons hs hr, ?_, hQ⟩
  intro R hR
  rcases List.mem_cons.1 hR with rfl | hR
  · exact ⟨rfl, rfl⟩
  · exact hK R hR
theorem RQ.off {Q : St → Prop} (hg : guardP ops o s.S = some false) (h : RQ P ops r ⟨putS s.S o.dst (.cond false (.d (.val (.bool false)))), s.H, s.nx, s.df⟩ Q) : RQ P ops (o :: r) s Q := by
  intro hn
  obtain ⟨s', L, hr, hK, hQ⟩ := h hn
  refine ⟨s', _, .cons (step_off hg) hr, ?_, hQ⟩
  intro R hR
  rcases List.mem_cons.1 hR with rfl | hR
  · exact ⟨rfl, rfl⟩
  · exact hK R hR
theorem RQ.call {Q : St → Prop} {c : Call} {f : Nat} {res : D} {ds : List D} (hg : o.guard = none) (ho : o.op = .call c) (hc : c.callee = .value (.func f)) (he : entersB P f = true) (hd : PV.toDs (c.args.toList.map (evP s.S)) = some ds) (hF : Fun P f ds res)
    (h : RQ P ops r ⟨putS s.S o.dst (.d res), s.H, s.nx, s.df⟩ Q) : RQ P ops (o :: r) s Q := by
  intro hn
  obtain ⟨s', L, hr, hK, hQ⟩ := h hn
  refine ⟨s', _, .cons (R := ⟨[], [], s.nx, s.nx⟩) (.run hg (pure_step hn (call_fun ho hc he hd hF))) hr, ?_, hQ⟩
  intro R hR
  rcases List.mem_cons.1 hR with rfl | hR
  · exact ⟨rfl, rfl⟩
  · exact hK R hR

theorem PW.regT {id : Nat} {Q : PX → St → Prop} (hok : dstsIn ops N = true) (h : XK P ops ops.toList s Q) : PW P N (.region id ops false) s Q :=
  fun m ρ a w hI => PW.region hok (h hI.hnil) m ρ a w hI
theorem PW.regK {id : Nat} {Q : PX → St → Prop} (hm : P.follows .mixedOrders = true) {M : List Nat} (hM : M = masks ops.toList []) (hok : regionOK ops N M = true)
    (h : RK P ops ops.toList s [] fun s' L => RecsOK M L ∧ Q .normal s') : PW P N (.region id ops true) s Q := by
  intro m ρ a w hI
  obtain ⟨s', L, hr, hL, hQ⟩ := h hI.hnil
  exact PW.draw hm M hok hM hr (by simpa using hL) hQ m ρ a w hI
theorem RecsOK.quiet {M : List Nat} {L : List Rec} (h : ∀ R ∈ L, R.W = [] ∧ R.lo = R.hi) : RecsOK M L := by
  intro i j a b _ ha hb hx
  have h1 := h a (List.mem_of_getElem? ha)
  have h2 := h b (List.mem_of_getElem? hb)
  rcases hx with ⟨x, _, hx | hx⟩ | ⟨x, _, hx⟩
  · rw [h1.1] at hx; cases hx
  · omega
  · rw [h2.1] at hx; cases hx
theorem PW.regQ {id : Nat} {Q : PX → St → Prop} (hm : P.follows .mixedOrders = true) {M : List Nat} (hM : M = masks ops.toList []) (hok : regionOK ops N M = true)
    (h : RQ P ops ops.toList s fun s' => Q .normal s') : PW P N (.region id ops true) s Q := by
  intro m ρ a w hI
  obtain ⟨s', L, hr, hL, hQ⟩ := h hI.hnil
  exact PW.draw hm M hok hM hr (RecsOK.quiet hL) hQ m ρ a w hI
end Go.Proofs.Ytonlehebfeilmaa.K
