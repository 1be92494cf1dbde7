/- A region's operations, in the text's order and in every order that its edges leave; code. -/
import Derived.Test.YtonlehebfeilmaaK2
namespace Go.Proofs.Ytonlehebfeilmaa.K
open Go Go.RowKit

def DfOK (m : Mem) (ρ : Ren) : List (Nat × List PV) → List Deferred → Prop
  | [], l => l = []
  | x :: r, l => ∃ d l', l = d :: l' ∧ d.target = .fn (.func x.1) #[] ∧ RepP m ρ x.2 d.args.toList ∧ DfOK m ρ r l'

theorem DfOK.mono {m m' : Mem} {ρ ρ' : Ren} (h : m.le m') (k : ρ.le ρ') : ∀ (l : List (Nat × List PV)) (ds : List Deferred), DfOK m ρ l ds → DfOK m' ρ' l ds
  | [], _, e => e
  | _ :: r, _, ⟨d, l', e1, e2, e3, e4⟩ => ⟨d, l', e1, e2, e3.mono h k, DfOK.mono h k r l' e4⟩

structure Inv (N : Nat) (s : St) (m : Mem) (ρ : Ren) (a : Act) (w : World) : Prop where
  size : a.tmps.size = N
  defers : DfOK m ρ s.df a.defers
  slots : ∀ t, Rep m ρ (s.S t) (a.tmps.getD t undef)
  valid : ValidOn (fun _ => True) m ρ w s.H
  hnil : ∀ i, s.nx ≤ i → s.H i = none
  rnil : ∀ i, s.nx ≤ i → ρ i = none

structure Adv (n0 : Nat) (m0 : Mem) (ρ0 : Ren) (w0 : World) (H0 : HM) (n : Nat) (m : Mem) (ρ : Ren) (w : World) (H : HM) : Prop where
  ext : Ext (Blk ρ0 H0 fun _ => True) m0 w0 m w
  ren : ρ0.le ρ
  place : ∀ b, Blk ρ H (fun _ => True) b → Blk ρ0 H0 (fun _ => True) b ∨ w0.heap.size ≤ b
  le : n0 ≤ n
  old : ∀ i, i < n0 → ρ i = ρ0 i

theorem Adv.refl (n : Nat) (m : Mem) (ρ : Ren) (w : World) (H : HM) : Adv n m ρ w H n m ρ w H := ⟨Ext.refl _ _ _, Ren.le_refl _, fun _ h => .inl h, Nat.le_refl _, fun _ _ => rfl⟩

theorem Adv.trans {n0 n1 n2 : Nat} {m0 m1 m2 : Mem} {ρ0 ρ1 ρ2 : Ren} {w0 w1 w2 : World} {H0 H1 H2 : HM} (h : Adv n0 m0 ρ0 w0 H0 n1 m1 ρ1 w1 H1) (k : Adv n1 m1 ρ1 w1 H1 n2 m2 ρ2 w2 H2) :
    Adv n0 m0 ρ0 w0 H0 n2 m2 ρ2 w2 H2 := by
  refine ⟨h.ext.trans k.ext h.place, Ren.le_trans h.ren k.ren, fun b hb => ?_, Nat.le_trans h.le k.le, fun i hi => ?_⟩
  · rcases k.place b hb with e | e
    · exact h.place b e
    · exact .inr (Nat.le_trans h.ext.size e)
  · rw [k.old i (Nat.lt_of_lt_of_le hi h.le), h.old i hi]

theorem EntryOK.ren {m : Mem} {ρ : Ren} {w : World} {i : Nat} {o : HO} (h : EntryOK m ρ w i o) {b c : Nat} (hr : ρ i = some (b, c)) : b < w.heap.size := by
  cases o with
  | var l => obtain ⟨b', c', vs, t, e1, e2, _⟩ := h; rw [hr] at e1; cases e1; exact (Array.getElem?_eq_some_iff.1 e2).1
  | spare sz n =>
    rcases h with ⟨_, e⟩ | ⟨b', c', vs, t, fr, e1, e2, _⟩
    · rw [hr] at e; cases e
    · rw [hr] at e1; cases e1; exact (Array.getElem?_eq_some_iff.1 e2).1

theorem EntryOK.move {m m' : Mem} {ρ ρ' : Ren} {w w' : World} {i : Nat} {o : HO} (h : EntryOK m ρ w i o) (hm : m.le m') (hr : ρ.le ρ') (hi : ρ' i = ρ i)
    (hb : ∀ b c, ρ i = some (b, c) → w'.heap[b]? = w.heap[b]?) (hn : ∀ b c, ρ i = some (b, c) → ∀ o v, m' b o = some v → m b o = some v) : EntryOK m' ρ' w' i o := by
  cases o with
  | var l =>
    obtain ⟨b, c, vs, t, e1, e2, e3, e5, e4⟩ := h
    refine ⟨b, c, vs, t, hr _ _ e1, by rw [hb b c e1]; exact e2, e3.mono hm hr, e5, fun o => ?_⟩
    cases e : m' b o with
    | none => rfl
    | some v => have := hn b c e1 o v e; rw [e4 o] at this; cases this
  | spare sz n =>
    rcases h with ⟨e0, e⟩ | ⟨b, c, vs, t, fr, e1, e2, e3, e4, e5, e6, e7⟩
    · exact .inl ⟨e0, by rw [hi]; exact e⟩
    refine .inr ⟨b, c, vs, t, fr, hr _ _ e1, by rw [hb b c e1]; exact e2, e3, e4, e5, e6, fun o ho => ?_⟩
    cases e : m' b o with
    | none => rfl
    | some v => have := hn b c e1 o v e; rw [e7 o ho] at this; cases this

/-- What one operation does to the blocks that it touches, among all owned ones. -/
theorem combine {T : Nat → Prop} {nx nx' : Nat} {m m' : Mem} {ρ ρ' : Ren} {w w' : World} {H Hs G H'' : HM} (V : ValidOn (fun _ => True) m ρ w H)
    (Dn : Done T nx nx' m ρ w Hs m' ρ' w' H'') (hs : ∀ i, T i → Hs i = H i)
    (g1 : ∀ i, (T i ∨ (nx ≤ i ∧ i < nx')) → G i = H'' i) (g2 : ∀ i, ¬ (T i ∨ (nx ≤ i ∧ i < nx')) → G i = H i) (hn : nx ≤ nx') :
    ValidOn (fun _ => True) m' ρ' w' G ∧ Adv nx m ρ w H nx' m' ρ' w' G := by
  have live : ∀ i, H i ≠ none → ∀ b c, ρ i = some (b, c) → b < w.heap.size := by
    intro i hi b c hr
    cases e : H i with
    | none => exact absurd e hi
    | some o => exact (V.entry i o trivial e).ren hr
  have keepb : ∀ i, ¬ (T i ∨ (nx ≤ i ∧ i < nx')) → H i ≠ none → ∀ b c, ρ i = some (b, c) → ¬ Blk ρ Hs T b := by
    rintro i hi hl b c hr ⟨j, c', hj, hjl, hjr⟩
    rw [hs j hj] at hjl
    have := V.apart i j b c c' trivial trivial hl hjl hr hjr
    subst this
    exact hi (.inl hj)
  have fbsub : ∀ b, Blk ρ Hs T b → Blk ρ H (fun _ => True) b := by
    rintro b ⟨j, c', hj, hjl, hjr⟩
    exact ⟨j, c', trivial, by rw [← hs j hj]; exact hjl, hjr⟩
  refine ⟨⟨Dn.valid.mem, ?_, ?_⟩, ⟨Dn.ext.mono fbsub, Dn.ren, ?_, hn, fun i hi => (Dn.fresh i).elim id (by omega)⟩⟩
  · intro i o _ hG
    by_cases hi : T i ∨ (nx ≤ i ∧ i < nx')
    · rw [g1 i hi] at hG
      exact Dn.valid.entry i o hi hG
    · rw [g2 i hi] at hG
      have hl : H i ≠ none := by rw [hG]; simp
      have he := V.entry i o trivial hG
      have hsame : ρ' i = ρ i := (Dn.fresh i).elim id (fun h => absurd (.inr h) hi)
      refine he.move Dn.ext.mem Dn.ren hsame (fun b c hr => ?_) (fun b c hr o v e => ?_)
      · exact Dn.ext.block _ (he.ren hr) (keepb i hi hl _ _ hr)
      · have hlt := he.ren hr
        rcases Dn.ext.new _ o v e with h | h | h
        · exact h
        · exact absurd h (keepb i hi hl _ _ hr)
        · omega
  · intro i j b c c' _ _ hi hj hri hrj
    have old : ∀ k, ¬ (T k ∨ (nx ≤ k ∧ k < nx')) → G k ≠ none → ∀ c, ρ' k = some (b, c) → ρ k = some (b, c) ∧ b < w.heap.size := by
      intro k hk hkl c hr
      rw [g2 k hk] at hkl
      have hsame : ρ' k = ρ k := (Dn.fresh k).elim id (fun h => absurd (.inr h) hk)
      rw [hsame] at hr
      exact ⟨hr, live k hkl b c hr⟩
    have mix : ∀ k l ck cl, (T k ∨ (nx ≤ k ∧ k < nx')) → ¬ (T l ∨ (nx ≤ l ∧ l < nx')) → G k ≠ none → G l ≠ none → ρ' k = some (b, ck) → ρ' l = some (b, cl) → False := by
      intro k l ck cl hk hl hkl hll hrk hrl
      obtain ⟨hrl', hblt⟩ := old l hl hll cl hrl
      rw [g1 k hk] at hkl
      rcases Dn.place b ⟨k, ck, hk, hkl, hrk⟩ with h | h
      · rw [g2 l hl] at hll
        exact keepb l hl hll b cl hrl' h
      · omega
    by_cases hi' : T i ∨ (nx ≤ i ∧ i < nx') <;> by_cases hj' : T j ∨ (nx ≤ j ∧ j < nx')
    · rw [g1 i hi'] at hi
      rw [g1 j hj'] at hj
      exact Dn.valid.apart i j b c c' hi' hj' hi hj hri hrj
    · exact (mix i j c c' hi' hj' hi hj hri hrj).elim
    · exact (mix j i c' c hj' hi' hj hi hrj hri).elim
    · have h1 := old i hi' hi c hri
      have h2 := old j hj' hj c' hrj
      rw [g2 i hi'] at hi
      rw [g2 j hj'] at hj
      exact V.apart i j b c c' trivial trivial hi hj h1.1 h2.1
  · rintro b ⟨i, c, _, hl, hr⟩
    by_cases hi : T i ∨ (nx ≤ i ∧ i < nx')
    · rw [g1 i hi] at hl
      exact (Dn.place b ⟨i, c, hi, hl, hr⟩).imp (fbsub b) id
    · rw [g2 i hi] at hl
      have hsame : ρ' i = ρ i := (Dn.fresh i).elim id (fun h => absurd (.inr h) hi)
      rw [hsame] at hr
      exact .inl ⟨i, _, trivial, hl, hr⟩

theorem rep_eval {s : St} {m : Mem} {ρ : Ren} {a : Act} (h : ∀ t, Rep m ρ (s.S t) (a.tmps.getD t undef)) (x : Operand) : Rep m ρ (evP s.S x) (a.eval x) := by
  cases x with
  | tmp t => exact h t
  | const v => exact rep_ofVal m ρ v
  | global g => simp [evP, Rep]
  | func f => simp only [evP, Rep, RepD, Act.eval]; exact ⟨[], rfl, by simp [RepL]⟩

theorem slots_put {S : Nat → PV} {m : Mem} {ρ : Ren} {a : Act} {N : Nat} (hN : a.tmps.size = N) (h : ∀ t, Rep m ρ (S t) (a.tmps.getD t undef)) (dst : Option Tmp) (hd : ∀ d, dst = some d → d < N)
    {p : PV} {v : Value} (hv : Rep m ρ p v) (t : Nat) : Rep m ρ (putS S dst p t) ((a.put dst v).tmps.getD t undef) := by
  cases dst with
  | none => exact h t
  | some d =>
    have hlt : d < a.tmps.size := by rw [hN]; exact hd d rfl
    simp only [putS, Act.put]
    by_cases e : t = d
    · subst e
      simp only [if_true]
      rw [Array.getD_eq_getD_getElem?, Array.getElem?_setIfInBounds_self_of_lt hlt]
      exact hv
    · simp only [if_neg e]
      have : (a.tmps.setIfInBounds d v).getD t undef = a.tmps.getD t undef := by
        rw [Array.getD_eq_getD_getElem?, Array.getD_eq_getD_getElem?, Array.getElem?_setIfInBounds_ne (fun h => e h.symm)]
      rw [this]; exact h t

theorem wanted_real {ops : Array Oper} {o : Oper} {S : Nat → PV} {m : Mem} {ρ : Ren} {a : Act} {N : Nat} (hN : a.tmps.size = N) (hops : ∀ (k : Nat) (o : Oper) (d : Nat), ops[k]? = some o → o.dst = some d → d < N)
    (h : ∀ t ∈ o.looksAt ops, Rep m ρ (S t) (a.tmps.getD t undef)) {b : Bool} (hw : guardP ops o S = some b) : Region.wanted o (yielded ops a.tmps) = b := by
  unfold guardP at hw
  unfold Region.wanted
  cases hg : o.guard with
  | none => simp [hg] at hw
  | some gw =>
    obtain ⟨j, want⟩ := gw
    simp only [hg] at hw ⊢
    cases hj : (ops[j]?).bind (·.dst) with
    | none => simp [hj] at hw
    | some t =>
      simp only [hj] at hw
      have hr := h t (by simp [Oper.looksAt, hg, hj])
      have hlt : t < a.tmps.size := by
        simp only [Option.bind_eq_some_iff] at hj
        obtain ⟨oj, h1, h2⟩ := hj
        rw [hN]
        exact hops j oj t h1 h2
      have hy : yielded ops a.tmps j = match a.tmps.getD t undef with | .bool b => some b | _ => none := by
        unfold yielded
        simp only [hj, Option.bind_some, Array.getElem?_eq_getElem hlt]
        have : a.tmps.getD t undef = a.tmps[t] := by simp [Array.getD_eq_getD_getElem?, hlt]
        rw [this]
        split <;> simp_all
      rw [hy]
      cases hS : S t with
      | d x =>
        simp only [hS] at hw hr
        cases x with
        | val v =>
          cases v with
          | bool b' =>
            simp only [Option.some.injEq] at hw
            simp only [Rep, RepD] at hr
            rw [hr]
            subst hw
            cases b' <;> cases want <;> rfl
          | _ => simp at hw
        | _ => simp at hw
      | cond g q =>
        simp only [hS] at hw hr
        cases q with
        | d x =>
          cases x with
          | val v =>
            cases v with
            | bool b' =>
              simp only [Option.some.injEq] at hw
              simp only [Rep, RepD] at hr
              subst hw
              cases g with
              | true =>
                rw [hr.1 rfl]
                cases b' <;> cases want <;> rfl
              | false =>
                rw [hr.2 rfl]
                rfl
            | _ => simp at hw
          | _ => simp at hw
        | _ => simp at hw
      | _ => simp [hS] at hw

theorem Done.same {T : Nat → Prop} {nx : Nat} {m : Mem} {ρ : Ren} {w : World} {H : HM} (V : ValidOn T m ρ w H) : Done T nx nx m ρ w H m ρ w H := by
  refine ⟨Ext.refl _ _ _, Ren.le_refl _, fun i => .inl rfl, ⟨V.mem, fun i o h => V.entry i o (h.elim id (by omega)), fun i j b c c' hi hj => V.apart i j b c c' (hi.elim id (by omega)) (hj.elim id (by omega))⟩, ?_⟩
  rintro b ⟨i, c, hi, hl, hr⟩
  exact .inl ⟨i, c, hi.elim id (by omega), hl, hr⟩

theorem operand_looks {ops : Array Oper} {o : Oper} {s : St} {m : Mem} {ρ : Ren} {a : Act} (h : ∀ t ∈ o.looksAt ops, Rep m ρ (s.S t) (a.tmps.getD t undef)) (x : Operand) (hx : x ∈ o.op.operands) : Rep m ρ (evP s.S x) (a.eval x) := by
  cases x with
  | tmp t => exact h t (by
      unfold Oper.looksAt
      exact List.mem_append_left _ (List.mem_filterMap.2 ⟨.tmp t, by simpa using hx, rfl⟩))
  | const v => exact rep_ofVal m ρ v
  | global g => simp [evP, Rep]
  | func f => simp only [evP, Rep, RepD, Act.eval]; exact ⟨[], rfl, by simp [RepL]⟩

/-- One operation, of which only what it looks at is known. -/
theorem op_local {P : Program} {ops : Array Oper} {N : Nat} (hops : ∀ (k : Nat) (o : Oper) (d : Nat), ops[k]? = some o → o.dst = some d → d < N) {i : Nat} {o : Oper} (ho : ops[i]? = some o)
    {s : St} {v : PV} {H' : HM} {R : Rec} (hst : StepOp P ops o s v H' R) {m : Mem} {ρ : Ren} {a : Act} {w : World} (hN : a.tmps.size = N)
    (hl : ∀ t ∈ o.looksAt ops, Rep m ρ (s.S t) (a.tmps.getD t undef)) (V : ValidOn (· ∈ R.T) m ρ w s.H) (hf : ∀ i, R.lo ≤ i → i < R.hi → ρ i = none)
    {K : Act → World → Prop} {Q : Exit → Act → World → Prop}
    (hK : ∀ u m' ρ' w', Done (· ∈ R.T) R.lo R.hi m ρ w s.H m' ρ' w' H' → Rep m' ρ' v u → K (a.put o.dst u) w') : wpOp P ops Q i K a w := by
  unfold wpOp
  simp only [ho]
  cases hst with
  | run hg hs =>
    have : Region.wanted o (yielded ops a.tmps) = true := by unfold Region.wanted; simp only [hg]
    rw [this]
    simp only [if_true]
    exact .inl (hs.sem m ρ a w K Q V hf (operand_looks hl) hK)
  | gd hg old hs =>
    rename_i v g T
    rw [wanted_real hN hops hl hg]
    cases g with
    | true =>
      simp only [if_true]
      obtain ⟨S', hu, hs'⟩ := hs rfl
      refine .inl (hs'.sem m ρ a w K Q V hf (fun x hx => hu x hx m ρ _ (operand_looks hl x hx)) ?_)
      intro u m' ρ' w' hD hr
      exact hK u m' ρ' w' hD (by simpa [Rep] using hr)
    | false =>
      simp only [Bool.false_eq_true, if_false]
      exact hK _ m ρ w (Done.same V) (by simp [Rep])

theorem StepOp.facts {P : Program} {ops : Array Oper} {o : Oper} {s : St} {v : PV} {H' : HM} {R : Rec} (h : StepOp P ops o s v H' R) :
    R.lo = s.nx ∧ R.lo ≤ R.hi ∧ (∀ i, i ∉ R.W → i < s.nx → H' i = s.H i) ∧ ((∀ i, s.nx ≤ i → s.H i = none) → ∀ i, R.hi ≤ i → H' i = none) ∧ (∀ i ∈ R.W, i ∈ R.T) ∧ (∀ i ∈ R.T, i < s.nx) := by
  cases h with
  | run hg hs => exact ⟨rfl, hs.le, hs.keep, fun _ => hs.nil, hs.sub, hs.old⟩
  | gd hg old hs => exact ⟨rfl, Nat.le_refl _, fun _ _ _ => rfl, fun h => h, by simp, old⟩

/-- One operation, in a state as the text's order has it. -/
theorem step_sound {P : Program} {ops : Array Oper} {N : Nat} (hops : ∀ (k : Nat) (o : Oper) (d : Nat), ops[k]? = some o → o.dst = some d → d < N) {i : Nat} {o : Oper} (ho : ops[i]? = some o)
    {s : St} {v : PV} {H' : HM} {R : Rec} (hst : StepOp P ops o s v H' R) {m : Mem} {ρ : Ren} {a : Act} {w : World} (hI : Inv N s m ρ a w)
    {K : Act → World → Prop} {Q : Exit → Act → World → Prop}
    (hK : ∀ a' w' m' ρ', Inv N ⟨putS s.S o.dst v, H', R.hi, s.df⟩ m' ρ' a' w' → Adv s.nx m ρ w s.H R.hi m' ρ' w' H' → K a' w') : wpOp P ops Q i K a w := by
  have hd : ∀ d, o.dst = some d → d < N := fun d h => hops i o d ho h
  obtain ⟨f1, f2, f3, f4, f5, f6⟩ := hst.facts
  have hfresh : ∀ i, R.lo ≤ i → i < R.hi → ρ i = none := fun i h1 _ => hI.rnil i (by omega)
  refine op_local hops ho hst hI.size (fun t _ => hI.slots t) ⟨hI.valid.mem, fun i o _ h => hI.valid.entry i o trivial h, fun i j b c c' _ _ => hI.valid.apart i j b c c' trivial trivial⟩ hfresh ?_
  intro u m' ρ' w' hD hu
  have g2 : ∀ i, ¬ ((fun j => j ∈ R.T) i ∨ (R.lo ≤ i ∧ i < R.hi)) → H' i = s.H i := by
    intro i hi
    by_cases hlt : i < s.nx
    · exact f3 i (fun h => hi (.inl (f5 i h))) hlt
    · have : R.hi ≤ i := by
        rcases Nat.lt_or_ge i R.hi with h | h
        · exact absurd (.inr ⟨by omega, h⟩) hi
        · exact h
      rw [f4 hI.hnil i this, hI.hnil i (by omega)]
  obtain ⟨V', A⟩ := combine hI.valid hD (fun _ _ => rfl) (fun _ _ => rfl) g2 f2
  rw [f1] at A
  refine hK _ _ m' ρ' ⟨?_, ?_, ?_, V', f4 hI.hnil, ?_⟩ A
  · cases o.dst <;> simp [Act.put, hI.size]
  · have := hI.defers.mono A.ext.mem A.ren
    cases o.dst <;> simpa [Act.put] using this
  · exact slots_put hI.size (fun t => (hI.slots t).mono A.ext.mem A.ren) o.dst hd hu
  · intro i hi
    have hi' : R.hi ≤ i := hi
    rcases hD.fresh i with h | h
    · rw [h]; exact hI.rnil i (by omega)
    · omega

/-- The operations of a list, in the text's order. -/
inductive Runs (P : Program) (ops : Array Oper) : List Oper → St → St → List Rec → Prop where
  | nil (s : St) : Runs P ops [] s s []
  | cons {o : Oper} {r : List Oper} {s s2 : St} {v : PV} {H' : HM} {R : Rec} {L : List Rec} (h : StepOp P ops o s v H' R) (k : Runs P ops r ⟨putS s.S o.dst v, H', R.hi, s.df⟩ s2 L) : Runs P ops (o :: r) s s2 (R :: L)

theorem runs_sound {P : Program} {ops : Array Oper} {N : Nat} (hops : ∀ (k : Nat) (o : Oper) (d : Nat), ops[k]? = some o → o.dst = some d → d < N) {Q : Exit → Act → World → Prop} :
    ∀ (r : List Oper) (k : Nat), (∀ j, r[j]? = ops[k + j]?) → ∀ (s s' : St) (L : List Rec), Runs P ops r s s' L → ∀ (m : Mem) (ρ : Ren) (a : Act) (w : World), Inv N s m ρ a w →
      (∀ a' w' m' ρ', Inv N s' m' ρ' a' w' → Adv s.nx m ρ w s.H s'.nx m' ρ' w' s'.H → Q .normal a' w') → wpOps P ops Q (List.range' k r.length) a w := by
  intro r
  induction r with
  | nil =>
    intro k _ s s' L hr m ρ a w hI hQ
    cases hr
    simpa [wpOps] using hQ a w m ρ hI (Adv.refl _ _ _ _ _)
  | cons o r ih =>
    intro k hk s s' L hr m ρ a w hI hQ
    cases hr with
    | cons h1 h2 =>
      rw [List.length_cons, List.range'_succ, wpOps_cons]
      have ho : ops[k]? = some o := by have := hk 0; simpa using this.symm
      refine step_sound hops ho h1 hI ?_
      intro a' w' m' ρ' hI' hA
      refine ih (k + 1) (fun j => by have := hk (j + 1); simpa [Nat.add_assoc, Nat.add_comm 1 j] using this) _ _ _ h2 m' ρ' a' w' hI' ?_
      intro a'' w'' m'' ρ'' hI'' hA''
      exact hQ a'' w'' m'' ρ'' hI'' (hA.trans hA'')
end Go.Proofs.Ytonlehebfeilmaa.K
