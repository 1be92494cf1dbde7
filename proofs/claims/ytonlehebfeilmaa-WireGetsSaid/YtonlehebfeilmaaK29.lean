/- Functions that answer a row of their caller's own. -/
import Derived.Test.YtonlehebfeilmaaK28
namespace Go.Proofs.Ytonlehebfeilmaa.K
open Go Go.RowKit

variable {P : Program} {N : Nat} {ops : Array Oper} {o : Oper} {r : List Oper} {s : St}

def postR (nx sz : Nat) (l : List D) : Out → HM → Nat → Prop := fun out H' nx' => ∃ j, nx ≤ j ∧ j < nx' ∧ out = .ret (.own j l) ∧ H' = fun i => if i = j then some (.spare sz l.length) else none

/-- Function f, given data, answers a new row of the elements l, which only its caller knows. -/
def FunR (P : Program) (f : Nat) (ds : List D) (sz : Nat) (l : List D) : Prop := ∀ nx, Spec P f (ds.map .d) (fun _ => none) nx (postR nx sz l)

theorem EndsX.own {rs : List ResultVar} {nx sz j : Nat} {l : List D} {px : PX} (hx : px = .ret ∨ px = .normal) (hd : s.df = []) (h1 : (resP P rs s).1 = .own j l) (h2 : (resP P rs s).2) (hj : nx ≤ j ∧ j < s.nx) (hH : s.H j = some (.spare sz l.length)) : EndsX P rs (postR nx sz l) px s := by
  have : (resP P rs s).2 ∧ ∃ H', (∀ i, H' i = none ∨ H' i = s.H i) ∧ postR nx sz l (.ret (resP P rs s).1) H' s.nx := by
    refine ⟨h2, fun i => if i = j then some (.spare sz l.length) else none, fun i => ?_, j, hj.1, hj.2, by rw [h1], rfl⟩
    by_cases e : i = j
    · subst e; right; simp [hH]
    · left; simp [e]
  rcases hx with rfl | rfl
  · exact ⟨hd, this⟩
  · exact ⟨hd, this⟩

theorem callR_sem {c : Call} {f sz : Nat} {ds l : List D} (ho : o.op = .call c) (hc : c.callee = .value (.func f)) (he : entersB P f = true) (hd : PV.toDs (c.args.toList.map (evP s.S)) = some ds) (hF : FunR P f ds sz l) (hn : ∀ i, s.nx ≤ i → s.H i = none) :
    OpSem P o s (.own s.nx l) (putH s.H s.nx (some (.spare sz l.length))) (s.nx + 1) [] [] := by
  refine ⟨by omega, fun i _ hi => ?_, fun i hi => ?_, by simp, by simp, ?_⟩
  · have : i ≠ s.nx := by omega
    simp [putH, this]
  · have : i ≠ s.nx := by omega
    simp [putH, this, hn i (by omega)]
  intro m ρ a w K Q V hf hx hK
  have hx' : ∀ x ∈ c.args.toList, Rep m ρ (evP s.S x) (a.eval x) := fun x hx' => hx x (by simp only [ho, Op.operands, Call.operands]; simp only [Array.mem_append]; exact .inr (by simpa using hx'))
  unfold Oper.wp
  rw [run_call_func ho hc he, Oper.upon_enter]
  have hr := repL_evals hx' hd
  have := hF s.nx m (fun _ => none) w _ ⟨V.mem, fun i o _ h => (by cases h), fun i j b c c' _ _ h _ _ _ => absurd rfl h⟩ (fun _ _ => rfl) (fun _ _ => rfl) (repP_d hr)
  have e : (⟨c.args.toList.map a.eval⟩ : Array Value) = c.args.map a.eval := by apply Array.ext'; simp
  rw [e] at this
  refine this.mono ?_
  rintro e w' ⟨out, H', nx', m', ρ', ⟨j, hj1, hj2, rfl, rfl⟩, V', hn', hr', hA, hre⟩
  obtain ⟨v, rfl, hv⟩ := hre
  have hρn : ρ s.nx = none := hf _ (Nat.le_refl _) (by omega)
  refine hK v m' (fun i => if i = s.nx then ρ' j else ρ i) w' ⟨hA.ext.mono (by rintro b ⟨i, c, _, h, _⟩; exact absurd rfl h), fun i x e => ?_, fun i => ?_, ⟨V'.mem, fun i o hi hH => ?_, fun i k b c1 c2 hi hk _ _ _ _ => ?_⟩, ?_⟩ ?_
  · have : i ≠ s.nx := by intro h; subst h; rw [hρn] at e; cases e
    simp [this, e]
  · by_cases h : i = s.nx
    · exact .inr ⟨by omega, by omega⟩
    · simp [h]
  · have h : i = s.nx := hi.elim (fun h => by cases h) (by omega)
    subst h
    simp only [putH, if_true, Option.some.injEq] at hH
    subst hH
    have hE := V'.entry j (.spare sz l.length) trivial (by simp)
    rcases hE with ⟨e1, e2⟩ | ⟨b, c1, vs, t, fr, e1, e2⟩
    · exact .inl ⟨e1, by simp [e2]⟩
    · exact .inr ⟨b, c1, vs, t, fr, by simp [e1], e2⟩
  · have h1 : i = s.nx := hi.elim (fun h => by cases h) (by omega)
    have h2 : k = s.nx := hk.elim (fun h => by cases h) (by omega)
    rw [h1, h2]
  · rintro b ⟨i, c1, hi, hl, hri⟩
    have h1 : i = s.nx := hi.elim (fun h => by cases h) (by omega)
    subst h1
    simp only [if_true] at hri
    rcases hA.place b ⟨j, c1, trivial, by simp, hri⟩ with ⟨_, _, _, h, _⟩ | h
    · exact absurd rfl h
    · exact .inr h
  · simp only [Rep] at hv ⊢
    rcases hv with ⟨b, c1, e1, e2⟩ | h
    · exact .inl ⟨b, c1, by simp [e1], e2⟩
    · exact .inr h

theorem FunR.toFun {f sz : Nat} {ds l : List D} (hF : FunR P f ds sz l) : Fun P f ds (.slice l) := by
  intro m w vs hm hr
  have := hF 0 m (fun _ => none) w vs ⟨hm, fun i o _ h => (by cases h), fun i j b c c' _ _ h _ _ _ => absurd rfl h⟩ (fun _ _ => rfl) (fun _ _ => rfl) (repP_d hr)
  refine this.mono ?_
  rintro e w' ⟨out, H', nx', m', ρ', ⟨j, _, _, rfl, rfl⟩, V', _, _, hA, hre⟩
  obtain ⟨v, rfl, hv⟩ := hre
  exact ⟨v, m', rfl, Rep.toD _ _ _ rfl hv, V'.mem, hA.ext.mono (by rintro b ⟨i, c, _, h, _⟩; exact absurd rfl h)⟩

theorem XK.callR {Q : PX → St → Prop} {c : Call} {f sz : Nat} {ds l : List D} (hg : o.guard = none) (ho : o.op = .call c) (hc : c.callee = .value (.func f)) (he : entersB P f = true) (hd : PV.toDs (c.args.toList.map (evP s.S)) = some ds) (hF : FunR P f ds sz l)
    (h : XK P ops r ⟨putS s.S o.dst (.own s.nx l), putH s.H s.nx (some (.spare sz l.length)), s.nx + 1, s.df⟩ Q) : XK P ops (o :: r) s Q := by
  intro hn
  have hsem := callR_sem (P := P) ho hc he hd hF hn
  exact .step (R := ⟨[], [], s.nx, s.nx + 1⟩) (.run hg hsem) (h hsem.nil)
theorem RK.callR {acc : List Rec} {K : St → List Rec → Prop} {c : Call} {f sz : Nat} {ds l : List D} (hg : o.guard = none) (ho : o.op = .call c) (hc : c.callee = .value (.func f)) (he : entersB P f = true) (hd : PV.toDs (c.args.toList.map (evP s.S)) = some ds) (hF : FunR P f ds sz l)
    (h : RK P ops r ⟨putS s.S o.dst (.own s.nx l), putH s.H s.nx (some (.spare sz l.length)), s.nx + 1, s.df⟩ (⟨[], [], s.nx, s.nx + 1⟩ :: acc) K) : RK P ops (o :: r) s acc K := by
  intro hn
  have hsem := callR_sem (P := P) ho hc he hd hF hn
  obtain ⟨s', L, hr, hK⟩ := h hsem.nil
  exact ⟨s', _, .cons (.run hg hsem) hr, by simpa using hK⟩

theorem nil_of {α : Type} {f : α → D} {l : List α} {b : Bool} (h : l.map f ≠ [] → b = false) (hb : b = true) : l = [] := by
  cases l with
  | nil => rfl
  | cons x r => rw [h (by simp)] at hb; cases hb
theorem drop_allg {α : Type} (l : List α) (i : Nat) : (l.drop i).take (l.length - i) = l.drop i := List.take_of_length_le (by simp)
attribute [go_sem] List.getElem?_cons_zero List.getElem?_cons_succ drop_allg Int.toNat_sub
end Go.Proofs.Ytonlehebfeilmaa.K
