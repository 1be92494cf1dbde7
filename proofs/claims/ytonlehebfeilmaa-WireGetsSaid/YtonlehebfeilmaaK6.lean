/- Code over pure states: sequence, tests, blocks, loops, regions; a function's law out of its body's. -/
import Derived.Test.YtonlehebfeilmaaK5
namespace Go.Proofs.Ytonlehebfeilmaa.K
open Go Go.RowKit

inductive PX where
  | normal
  | exit (id : Nat)
  | ret
  | panic (p : PV)

def RX (m : Mem) (ρ : Ren) : PX → Exit → Prop
  | .normal, e => e = .normal
  | .exit i, e => e = .exit i
  | .ret, e => e = .ret
  | .panic p, e => ∃ v, e = .panic [{ v := v, recovered := false }] ∧ Rep m ρ p v

def PPost (N : Nat) (n0 : Nat) (m0 : Mem) (ρ0 : Ren) (w0 : World) (H0 : HM) (Q : PX → St → Prop) (e : Exit) (a : Act) (w : World) : Prop :=
  ∃ px s m ρ, Q px s ∧ RX m ρ px e ∧ Inv N s m ρ a w ∧ Adv n0 m0 ρ0 w0 H0 s.nx m ρ w s.H

/-- Code c, begun in the pure state s, ends by Q. -/
def PW (P : Program) (N : Nat) (c : Code) (s : St) (Q : PX → St → Prop) : Prop :=
  ∀ m ρ a w, Inv N s m ρ a w → c.wp P (PPost N s.nx m ρ w s.H Q) a w

variable {P : Program} {N : Nat}

theorem PPost.of_adv {n0 n1 : Nat} {m0 m1 : Mem} {ρ0 ρ1 : Ren} {w0 w1 : World} {H0 H1 : HM} {Q : PX → St → Prop} {e : Exit} {a : Act} {w : World} (hA : Adv n0 m0 ρ0 w0 H0 n1 m1 ρ1 w1 H1)
    (h : PPost N n1 m1 ρ1 w1 H1 Q e a w) : PPost N n0 m0 ρ0 w0 H0 Q e a w := by
  obtain ⟨px, s, m, ρ, h1, h2, h3, h4⟩ := h
  exact ⟨px, s, m, ρ, h1, h2, h3, hA.trans h4⟩

theorem PPost.mono {n0 : Nat} {m0 : Mem} {ρ0 : Ren} {w0 : World} {H0 : HM} {Q Q' : PX → St → Prop} {e : Exit} {a : Act} {w : World} (hq : ∀ px s, Q px s → Q' px s)
    (h : PPost N n0 m0 ρ0 w0 H0 Q e a w) : PPost N n0 m0 ρ0 w0 H0 Q' e a w := by
  obtain ⟨px, s, m, ρ, h1, h2⟩ := h
  exact ⟨px, s, m, ρ, hq _ _ h1, h2⟩

theorem PW.mono {c : Code} {s : St} {Q Q' : PX → St → Prop} (h : PW P N c s Q) (hq : ∀ px s, Q px s → Q' px s) : PW P N c s Q' :=
  fun m ρ a w hI => wp_mono (h m ρ a w hI) fun _ _ _ hp => hp.mono hq

def PX.then (next : St → Prop) (Q : PX → St → Prop) : PX → St → Prop
  | .normal, s => next s
  | px, s => Q px s

theorem PW.seq {x y : Code} {s : St} {Q : PX → St → Prop} (h : PW P N x s (PX.then (fun s' => PW P N y s' Q) Q)) : PW P N (.seq x y) s Q := by
  intro m ρ a w hI
  refine wp_seq (wp_mono (h m ρ a w hI) ?_)
  rintro e a' w' ⟨px, s', m', ρ', hq, hr, hI', hA⟩
  cases px with
  | normal =>
    simp only [RX] at hr
    subst hr
    exact wp_mono (hq m' ρ' a' w' hI') fun _ _ _ hp => hp.of_adv hA
  | exit i => simp only [RX] at hr; subst hr; exact ⟨.exit i, s', m', ρ', hq, rfl, hI', hA⟩
  | ret => simp only [RX] at hr; subst hr; exact ⟨.ret, s', m', ρ', hq, rfl, hI', hA⟩
  | panic p => obtain ⟨v, rfl, hv⟩ := hr; exact ⟨.panic p, s', m', ρ', hq, ⟨v, rfl, hv⟩, hI', hA⟩

theorem PW.skip {s : St} {Q : PX → St → Prop} (h : Q .normal s) : PW P N .skip s Q :=
  fun m ρ _ _ hI => wp_skip ⟨.normal, s, m, ρ, h, rfl, hI, Adv.refl _ _ _ _ _⟩

theorem PW.exit {id : Nat} {s : St} {Q : PX → St → Prop} (h : Q (.exit id) s) : PW P N (.exit id) s Q :=
  fun m ρ _ _ hI => wp_exit ⟨.exit id, s, m, ρ, h, rfl, hI, Adv.refl _ _ _ _ _⟩

theorem PW.ret {s : St} {Q : PX → St → Prop} (h : Q .ret s) : PW P N .ret s Q :=
  fun m ρ _ _ hI => wp_ret ⟨.ret, s, m, ρ, h, rfl, hI, Adv.refl _ _ _ _ _⟩

theorem PW.cond {c : Operand} {x y : Code} {s : St} {Q : PX → St → Prop} {b : Bool} (hc : evP s.S c = .d (.val (.bool b))) (h1 : b = true → PW P N x s Q) (h2 : b = false → PW P N y s Q) :
    PW P N (.cond c x y) s Q := by
  intro m ρ a w hI
  have hr := rep_eval hI.slots c
  rw [hc] at hr
  simp only [Rep, RepD] at hr
  exact wp_cond_split hr (fun hb => h1 hb m ρ a w hI) (fun hb => h2 hb m ρ a w hI)

def PX.inBlock (id : Nat) (Q : PX → St → Prop) : PX → St → Prop
  | .exit i, s => if i = id then Q .normal s else Q (.exit i) s
  | px, s => Q px s

theorem PW.block {id : Nat} {c : Code} {s : St} {Q : PX → St → Prop} (h : PW P N c s (PX.inBlock id Q)) : PW P N (.block id c) s Q := by
  intro m ρ a w hI
  refine wp_block (wp_mono (h m ρ a w hI) ?_)
  rintro e a' w' ⟨px, s', m', ρ', hq, hr, hI', hA⟩
  cases px with
  | normal => simp only [RX] at hr; subst hr; exact ⟨.normal, s', m', ρ', hq, rfl, hI', hA⟩
  | exit i =>
    simp only [RX] at hr; subst hr
    simp only [PX.inBlock] at hq
    simp only [Exit.inBlock]
    split
    · rename_i he
      rw [if_pos he] at hq
      exact ⟨.normal, s', m', ρ', hq, rfl, hI', hA⟩
    · rename_i he
      rw [if_neg he] at hq
      exact ⟨.exit i, s', m', ρ', hq, rfl, hI', hA⟩
  | ret => simp only [RX] at hr; subst hr; exact ⟨.ret, s', m', ρ', hq, rfl, hI', hA⟩
  | panic p => obtain ⟨v, rfl, hv⟩ := hr; exact ⟨.panic p, s', m', ρ', hq, ⟨v, rfl, hv⟩, hI', hA⟩

theorem least {p : Nat → Prop} : ∀ k, p k → ∃ k, p k ∧ ∀ j, p j → k ≤ j := by
  intro k
  induction k using Nat.strongRecOn with
  | _ k ih =>
    intro hk
    by_cases h : ∃ j, j < k ∧ p j
    · obtain ⟨j, h1, h2⟩ := h
      exact ih j h1 h2
    · exact ⟨k, hk, fun j hj => by
        rcases Nat.lt_or_ge j k with h1 | h1
        · exact absurd ⟨j, h1, hj⟩ h
        · exact h1⟩

open Classical in
theorem PW.loop {c : Code} {s : St} {Q : PX → St → Prop} (I : St → Prop) (μ : St → Nat) (h0 : I s) (round : ∀ s, I s → PW P N c s (PX.then (fun s' => I s' ∧ μ s' < μ s) Q)) : PW P N (.loop c) s Q := by
  intro m ρ a w hI
  let R : Act → World → Nat → Prop := fun a' w' k => ∃ s' m' ρ', I s' ∧ Inv N s' m' ρ' a' w' ∧ Adv s.nx m ρ w s.H s'.nx m' ρ' w' s'.H ∧ μ s' = k
  have hex : R a w (μ s) := ⟨s, m, ρ, h0, hI, Adv.refl _ _ _ _ _, rfl⟩
  refine wp_loop (fun a' w' => ∃ k, R a' w' k) (fun a' w' => if h : ∃ k, R a' w' k ∧ ∀ j, R a' w' j → k ≤ j then Classical.choose h else 0) ⟨_, hex⟩ ?_
  intro a1 w1 h1
  obtain ⟨k1, h1'⟩ := h1
  have h1 := least k1 h1'
  have hspec := Classical.choose_spec h1
  generalize hk : Classical.choose h1 = kk at hspec
  obtain ⟨⟨s1, m1, ρ1, i1, v1, A1, e1⟩, hmin⟩ := hspec
  refine wp_mono (round s1 i1 m1 ρ1 a1 w1 v1) ?_
  rintro e a' w' ⟨px, s', m', ρ', hq, hr, hI', hA⟩
  cases px with
  | normal =>
    simp only [RX] at hr; subst hr
    obtain ⟨hi, hlt⟩ := hq
    have h2' : R a' w' (μ s') := ⟨s', m', ρ', hi, hI', A1.trans hA, rfl⟩
    have h2 := least _ h2'
    refine ⟨⟨_, h2'⟩, ?_⟩
    simp only [dif_pos h1, dif_pos h2, hk]
    have := (Classical.choose_spec h2).2 _ h2'
    omega
  | exit i => simp only [RX] at hr; subst hr; exact ⟨.exit i, s', m', ρ', hq, rfl, hI', A1.trans hA⟩
  | ret => simp only [RX] at hr; subst hr; exact ⟨.ret, s', m', ρ', hq, rfl, hI', A1.trans hA⟩
  | panic p => obtain ⟨v, rfl, hv⟩ := hr; exact ⟨.panic p, s', m', ρ', hq, ⟨v, rfl, hv⟩, hI', A1.trans hA⟩

theorem Inv.drew {s : St} {m : Mem} {ρ : Ren} {a : Act} {w : World} (h : Inv N s m ρ a w) : Inv N s m ρ a w.drew :=
  ⟨h.size, h.defers, h.slots, ⟨h.valid.mem, fun i o ht hH => by have := h.valid.entry i o ht hH; cases o <;> exact this, h.valid.apart⟩, h.hnil, h.rnil⟩

theorem Adv.drew (n : Nat) (m : Mem) (ρ : Ren) (w : World) (H : HM) : Adv n m ρ w H n m ρ w.drew H :=
  ⟨⟨Mem.le_refl _, Nat.le_refl _, fun _ _ _ => rfl, rfl, rfl, rfl, fun _ _ _ h => .inl h⟩, Ren.le_refl _, fun _ h => .inl h, Nat.le_refl _, fun _ _ => rfl⟩

/-- A region that draws its order. -/
theorem PW.draw {id : Nat} {ops : Array Oper} {s s' : St} {L : List Rec} {Q : PX → St → Prop} (hm : P.follows .mixedOrders = true) (M : List Nat) (hok : regionOK ops N M = true) (hM : M = masks ops.toList [])
    (hruns : Runs P ops ops.toList s s' L) (hL : RecsOK M L) (hQ : Q .normal s') : PW P N (.region id ops true) s Q := by
  intro m ρ a w hI
  simp only [regionOK, Bool.and_eq_true] at hok
  refine wp_region_any hm ?_
  refine order_sound hok.1.1 hok.1.2 hM hok.2 hruns hL hI.drew (w0 := w.drew) ?_
  intro a' w' m' ρ' hI' hA
  exact ⟨.normal, s', m', ρ', hQ, rfl, hI', (Adv.drew _ _ _ _ _).trans hA⟩

inductive Out where
  | ret (p : PV)
  | pan (p : PV)

/-- What a call may end in, a panic too. -/
def XCall (P : Program) (o : Oper) (s : St) (post : Out → HM → Nat → Prop) : Prop :=
  ∀ m ρ a w (K : Act → World → Prop) (Q : Exit → Act → World → Prop), ValidOn (fun _ => True) m ρ w s.H → (∀ i, s.nx ≤ i → s.H i = none) → (∀ i, s.nx ≤ i → ρ i = none) →
    (∀ x ∈ o.op.operands, Rep m ρ (evP s.S x) (a.eval x)) →
    (∀ p H' nx' m' ρ' w' u, post (.ret p) H' nx' → ValidOn (fun _ => True) m' ρ' w' H' → (∀ i, nx' ≤ i → H' i = none) → (∀ i, nx' ≤ i → ρ' i = none) → Adv s.nx m ρ w s.H nx' m' ρ' w' H' →
      Rep m' ρ' p u → K (a.put o.dst u) w') →
    (∀ p H' nx' m' ρ' w' u, post (.pan p) H' nx' → ValidOn (fun _ => True) m' ρ' w' H' → (∀ i, nx' ≤ i → H' i = none) → (∀ i, nx' ≤ i → ρ' i = none) → Adv s.nx m ρ w s.H nx' m' ρ' w' H' →
      Rep m' ρ' p u → Q (.panic [{ v := u, recovered := false }]) a w') → o.wp P a w K Q

/-- A list of operations in the text's order, of which calls may panic and defers may stand. -/
inductive RunX (P : Program) (ops : Array Oper) : List Oper → St → (PX → St → Prop) → Prop where
  | nil {s : St} {Q : PX → St → Prop} (h : Q .normal s) : RunX P ops [] s Q
  | step {o : Oper} {r : List Oper} {s : St} {Q : PX → St → Prop} {v : PV} {H' : HM} {R : Rec} (h : StepOp P ops o s v H' R) (k : RunX P ops r ⟨putS s.S o.dst v, H', R.hi, s.df⟩ Q) : RunX P ops (o :: r) s Q
  | call {o : Oper} {r : List Oper} {s : St} {Q : PX → St → Prop} {post : Out → HM → Nat → Prop} (hg : o.guard = none) (h : XCall P o s post)
      (k : ∀ p H' nx', post (.ret p) H' nx' → (∀ i, nx' ≤ i → H' i = none) → RunX P ops r ⟨putS s.S o.dst p, H', nx', s.df⟩ Q) (kp : ∀ p H' nx', post (.pan p) H' nx' → Q (.panic p) ⟨s.S, H', nx', s.df⟩) : RunX P ops (o :: r) s Q
  | defer {o : Oper} {r : List Oper} {s : St} {Q : PX → St → Prop} {c : Call} {f : Nat} (hg : o.guard = none) (ho : o.op = .defer c) (hc : c.callee = .value (.func f))
      (k : RunX P ops r ⟨putS s.S o.dst .junk, s.H, s.nx, (f, c.args.toList.map (evP s.S)) :: s.df⟩ Q) : RunX P ops (o :: r) s Q

theorem repP_map_eval {s : St} {m : Mem} {ρ : Ren} {a : Act} : ∀ (l : List Operand), (∀ x ∈ l, Rep m ρ (evP s.S x) (a.eval x)) → RepP m ρ (l.map (evP s.S)) (l.map a.eval)
  | [], _ => by simp [RepP]
  | x :: r, h => by
    simp only [List.map_cons, RepP]
    exact ⟨_, _, rfl, h x (List.mem_cons_self ..), repP_map_eval r fun y hy => h y (List.mem_cons_of_mem _ hy)⟩

theorem runX_sound {ops : Array Oper} (hops : ∀ (k : Nat) (o : Oper) (d : Nat), ops[k]? = some o → o.dst = some d → d < N) {Q : PX → St → Prop} :
    ∀ (r : List Oper) (s : St), RunX P ops r s Q → ∀ (k : Nat), (∀ j, r[j]? = ops[k + j]?) → ∀ (n0 : Nat) (m0 : Mem) (ρ0 : Ren) (w0 : World) (H0 : HM) (m : Mem) (ρ : Ren) (a : Act) (w : World), Inv N s m ρ a w →
      Adv n0 m0 ρ0 w0 H0 s.nx m ρ w s.H → wpOps P ops (PPost N n0 m0 ρ0 w0 H0 Q) (List.range' k r.length) a w := by
  intro r s h
  induction h with
  | nil h =>
    intro k _ n0 m0 ρ0 w0 H0 m ρ a w hI hA
    simp only [List.length_nil, List.range'_zero, wpOps]
    exact ⟨.normal, _, m, ρ, h, rfl, hI, hA⟩
  | @step o r s Q v H' R h1 h2 ih =>
    intro k hk n0 m0 ρ0 w0 H0 m ρ a w hI hA
    rw [List.length_cons, List.range'_succ, wpOps_cons]
    have ho : ops[k]? = some o := by have := hk 0; simpa using this.symm
    refine step_sound hops ho h1 hI ?_
    intro a' w' m' ρ' hI' hA'
    exact ih (k + 1) (fun j => by have := hk (j + 1); simpa [Nat.add_assoc, Nat.add_comm 1 j] using this) n0 m0 ρ0 w0 H0 m' ρ' a' w' hI' (hA.trans hA')
  | @call o r s Q post hg hx k1 k2 ih =>
    intro k hk n0 m0 ρ0 w0 H0 m ρ a w hI hA
    rw [List.length_cons, List.range'_succ, wpOps_cons]
    have ho : ops[k]? = some o := by have := hk 0; simpa using this.symm
    have hd : ∀ d, o.dst = some d → d < N := fun d h => hops k o d ho h
    unfold wpOp
    simp only [ho]
    have : Region.wanted o (yielded ops a.tmps) = true := by unfold Region.wanted; simp only [hg]
    rw [this]
    simp only [if_true]
    refine .inl (hx m ρ a w _ _ hI.valid hI.hnil hI.rnil (fun x _ => rep_eval hI.slots x) ?_ ?_)
    · intro p H' nx' m' ρ' w' u hp V' hn hr A' hu
      refine ih p H' nx' hp hn (k + 1) (fun j => by have := hk (j + 1); simpa [Nat.add_assoc, Nat.add_comm 1 j] using this) n0 m0 ρ0 w0 H0 m' ρ' _ w' ⟨?_, ?_, ?_, V', hn, hr⟩ (hA.trans A')
      · cases o.dst <;> simp [Act.put, hI.size]
      · have := hI.defers.mono A'.ext.mem A'.ren
        cases o.dst <;> simpa [Act.put] using this
      · exact slots_put hI.size (fun t => (hI.slots t).mono A'.ext.mem A'.ren) o.dst hd hu
    · intro p H' nx' m' ρ' w' u hp V' hn hr A' hu
      refine ⟨.panic p, _, m', ρ', k2 p H' nx' hp, ⟨u, rfl, hu⟩, ⟨hI.size, hI.defers.mono A'.ext.mem A'.ren, fun t => (hI.slots t).mono A'.ext.mem A'.ren, V', hn, hr⟩, hA.trans A'⟩
  | @defer o r s Q c f hg hop hc k1 ih =>
    intro k hk n0 m0 ρ0 w0 H0 m ρ a w hI hA
    rw [List.length_cons, List.range'_succ, wpOps_cons]
    have ho : ops[k]? = some o := by have := hk 0; simpa using this.symm
    have hd : ∀ d, o.dst = some d → d < N := fun d h => hops k o d ho h
    unfold wpOp
    simp only [ho]
    have : Region.wanted o (yielded ops a.tmps) = true := by unfold Region.wanted; simp only [hg]
    rw [this]
    simp only [if_true]
    refine .inl ?_
    unfold Oper.wp
    have hrun : (execOp a.eval o).run P w = .ok (.defer { target := .fn (.func f) #[], args := c.args.map a.eval }) w := by
      obtain ⟨dst, op, type, pos, after, guard⟩ := o
      simp only at hop
      subst hop
      obtain ⟨callee, args, argTypes⟩ := c
      simp only at hc
      subst hc
      simp [execOp, resolve, Deferred.ofValue, Act.eval]
    rw [hrun, Oper.upon_defer]
    refine ih (k + 1) (fun j => by have := hk (j + 1); simpa [Nat.add_assoc, Nat.add_comm 1 j] using this) n0 m0 ρ0 w0 H0 m ρ _ w ⟨?_, ?_, ?_, hI.valid, hI.hnil, hI.rnil⟩ hA
    · cases o.dst <;> simp [Act.put, hI.size]
    · have hdf : DfOK m ρ ((f, c.args.toList.map (evP s.S)) :: s.df) ({ target := .fn (.func f) #[], args := c.args.map a.eval } :: a.defers) :=
        ⟨_, _, rfl, rfl, by simpa using repP_map_eval c.args.toList (fun x _ => rep_eval hI.slots x), hI.defers⟩
      cases o.dst <;> simpa [Act.put] using hdf
    · exact slots_put (a := { a with defers := _ :: a.defers }) hI.size hI.slots o.dst hd (by simp [Rep])

/-- A region in the text's order. -/
theorem PW.region {id : Nat} {ops : Array Oper} {s : St} {Q : PX → St → Prop} (hok : dstsIn ops N = true) (h : RunX P ops ops.toList s Q) : PW P N (.region id ops false) s Q := by
  intro m ρ a w hI
  refine wp_region ?_
  have := runX_sound (dstsIn_spec hok) ops.toList s h 0 (by simp) s.nx m ρ w s.H m ρ a w hI (Adv.refl _ _ _ _ _)
  rw [List.range_eq_range']
  simpa using this
end Go.Proofs.Ytonlehebfeilmaa.K
