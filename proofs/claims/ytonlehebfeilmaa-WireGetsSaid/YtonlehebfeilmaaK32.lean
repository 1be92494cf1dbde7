/- What the printed walks say between regions: cuts, results, what a cut's number of steps gives. -/
import Derived.Test.YtonlehebfeilmaaK31
namespace Go.Proofs.Ytonlehebfeilmaa.K
open Go Go.RowKit

variable {P : Program} {N b : Nat}

section
variable {next : St → Prop} {Q : PX → St → Prop} {s : St} {i id : Nat} {p : PV}
theorem nrm (h : next s) : PX.then next Q .normal s := h
theorem thX (h : Q (.exit i) s) : PX.then next Q (.exit i) s := h
theorem thR (h : Q .ret s) : PX.then next Q .ret s := h
theorem thP (h : Q (.panic p) s) : PX.then next Q (.panic p) s := h
theorem blN (h : Q .normal s) : PX.inBlock id Q .normal s := h
theorem blR (h : Q .ret s) : PX.inBlock id Q .ret s := h
theorem blP (h : Q (.panic p) s) : PX.inBlock id Q (.panic p) s := h
theorem exE (h : Q .normal s) : PX.inBlock id Q (.exit id) s := by simp only [PX.inBlock, if_true]; exact h
theorem exN (hn : (i == id) = false) (h : Q (.exit i) s) : PX.inBlock id Q (.exit i) s := by
  have : i ≠ id := by simpa using hn
  simp only [PX.inBlock, this, if_false]; exact h
end

theorem QW.mono {c : Code} {s : St} {Q Q' : PX → St → Prop} (h : QW P N b c s Q) (hq : ∀ px s, Q px s → Q' px s) : QW P N b c s Q' := by
  refine ⟨h.1, fun m ρ a w hI => wp_mono (h.2 m ρ a w hI) ?_⟩
  rintro e a' w' ⟨px, s', m', ρ', h1, h2⟩
  exact ⟨px, s', m', ρ', hq _ _ h1, h2⟩

/-- Where paths meet. -/
theorem QW.seqI {x y : Code} {s : St} {Q : PX → St → Prop} (I : St → Prop) (h : QW P N b x s (PX.then (fun s' => ∃ s'', View N b s' s'' ∧ I s'') Q)) (hb : ∀ s', I s' → QW P N b y s' Q) : QW P N b (.seq x y) s Q := by
  refine ⟨h.1, fun m ρ a w hI => ?_⟩
  refine wp_seq (wp_mono (h.2 m ρ a w hI) ?_)
  rintro e a' w' ⟨px, s', m', ρ', hq, hr, hI', hA⟩
  cases px with
  | normal =>
    simp only [RX] at hr
    subst hr
    obtain ⟨s'', hv, hi⟩ := hq
    obtain ⟨m2, ρ2, hI2, hA2⟩ := hv m' ρ' a' w' hI'
    exact wp_mono ((hb s'' hi).2 m2 ρ2 a' w' hI2) fun _ _ _ hp => hp.of_adv (hA.trans hA2)
  | exit i => simp only [RX] at hr; subst hr; exact ⟨.exit i, s', m', ρ', hq, rfl, hI', hA⟩
  | ret => simp only [RX] at hr; subst hr; exact ⟨.ret, s', m', ρ', hq, rfl, hI', hA⟩
  | panic p => obtain ⟨v, rfl, hv⟩ := hr; exact ⟨.panic p, s', m', ρ', hq, ⟨v, rfl, hv⟩, hI', hA⟩

theorem View.trans {s s1 s2 : St} (h : View N b s s1) (k : View N b s1 s2) : View N b s s2 := by
  intro m ρ a w hI
  obtain ⟨m1, ρ1, hI1, hA1⟩ := h m ρ a w hI
  obtain ⟨m2, ρ2, hI2, hA2⟩ := k m1 ρ1 a w hI1
  exact ⟨m2, ρ2, hI2, hA1.trans hA2⟩

/-- What is nothing is a row of one's own. -/
theorem View.buf {s : St} (t sz : Nat) (hs : s.S t = .full []) (hb : b ≤ s.nx) : View N b s ⟨putS s.S (some t) (.own s.nx []), putH s.H s.nx (some (.spare sz 0)), s.nx + 1, s.df⟩ := by
  refine View.of (Nat.le_trans hb (Nat.le_succ _)) fun m ρ a w hI => ?_
  have hslot := hI.slots t
  rw [hs] at hslot
  simp only [Rep] at hslot
  obtain ⟨ad, ev, _⟩ := hslot
  have nn : ∀ k, (∃ b c, ρ k = some (b, c)) → k ≠ s.nx := by
    rintro k ⟨b, c, h⟩ e
    subst e
    rw [hI.rnil _ (Nat.le_refl _)] at h; cases h
  have hI' : Inv N ⟨putS s.S (some t) (.own s.nx []), putH s.H s.nx (some (.spare sz 0)), s.nx + 1, s.df⟩ m ρ a w := by
    refine ⟨hI.size, hI.defers, fun i => ?_, ⟨hI.valid.mem, fun i o _ hH => ?_, fun i j b c c' _ _ hi hj hri hrj => ?_⟩, fun i hi => ?_, fun i hi => hI.rnil i (by have : s.nx + 1 ≤ i := hi; omega)⟩
    · simp only [putS_at]
      by_cases e : i = t
      · subst e
        simp only [if_true, Rep]
        exact .inr ⟨trivial, ad, ev⟩
      · simp only [e, if_false]; exact hI.slots i
    · simp only [putH_at] at hH
      by_cases e : i = s.nx
      · subst e
        simp only [if_true, Option.some.injEq] at hH
        subst hH
        exact .inl ⟨rfl, hI.rnil _ (Nat.le_refl _)⟩
      · simp only [e, if_false] at hH; exact hI.valid.entry i o trivial hH
    · have e1 := nn i ⟨b, c, hri⟩
      have e2 := nn j ⟨b, c', hrj⟩
      simp only [putH_at, e1, if_false] at hi
      simp only [putH_at, e2, if_false] at hj
      exact hI.valid.apart i j b c c' trivial trivial hi hj hri hrj
    · have h1 : s.nx + 1 ≤ i := hi
      have : i ≠ s.nx := by omega
      simp only [putH_at, this, if_false]
      exact hI.hnil i (by omega)
  refine ⟨ρ, hI', ?_, fun _ _ => rfl⟩
  rintro b' ⟨i, c, _, hl, hri⟩
  have := nn i ⟨b', c, hri⟩
  simp only [putH_at, this, if_false] at hl
  exact ⟨i, c, trivial, hl, hri⟩

/-- Likewise in a variable. -/
theorem View.bufV {s : St} {l : List PV} (id j sz : Nat) (hH : s.H id = some (.var l)) (hj : l[j]? = some (.full [])) (hb : b ≤ s.nx) :
    View N b s ⟨s.S, putH (putH s.H id (some (.var (l.set j (.own s.nx []))))) s.nx (some (.spare sz 0)), s.nx + 1, s.df⟩ := by
  refine View.of (Nat.le_trans hb (Nat.le_succ _)) fun m ρ a w hI => ?_
  have hid : id ≠ s.nx := by intro e; rw [e, hI.hnil _ (Nat.le_refl _)] at hH; cases hH
  have nn : ∀ k, (∃ b c, ρ k = some (b, c)) → k ≠ s.nx := by
    rintro k ⟨b, c, h⟩ e
    subst e
    rw [hI.rnil _ (Nat.le_refl _)] at h; cases h
  have live : ∀ k, k ≠ s.nx → putH (putH s.H id (some (.var (l.set j (.own s.nx []))))) s.nx (some (.spare sz 0)) k ≠ none → s.H k ≠ none := by
    intro k hk
    simp only [putH, hk, if_false]
    split
    · rename_i e; intro _; rw [e, hH]; simp
    · exact fun h => h
  have hI' : Inv N ⟨s.S, putH (putH s.H id (some (.var (l.set j (.own s.nx []))))) s.nx (some (.spare sz 0)), s.nx + 1, s.df⟩ m ρ a w := by
    refine ⟨hI.size, hI.defers, hI.slots, ⟨hI.valid.mem, fun i o _ hH' => ?_, fun i j b c c' _ _ hi hj hri hrj => ?_⟩, fun i hi => ?_, fun i hi => hI.rnil i (by have : s.nx + 1 ≤ i := hi; omega)⟩
    · by_cases e : i = s.nx
      · subst e
        simp only [putH, if_true, Option.some.injEq] at hH'
        subst hH'
        exact .inl ⟨rfl, hI.rnil _ (Nat.le_refl _)⟩
      · by_cases e2 : i = id
        · subst e2
          simp only [putH, e, if_false, if_true, Option.some.injEq] at hH'
          subst hH'
          obtain ⟨b, c, vs, t, e1, e2, e3, e5, e4⟩ := hI.valid.entry i _ trivial hH
          refine ⟨b, c, vs, t, e1, e2, repP_set (fun v hv => ?_) _ _ _ hj e3, e5, e4⟩
          simp only [Rep] at hv ⊢
          obtain ⟨ad, ev, _⟩ := hv
          exact .inr ⟨trivial, ad, ev⟩
        · simp only [putH, e, e2, if_false] at hH'
          exact hI.valid.entry i o trivial hH'
    · exact hI.valid.apart i j b c c' trivial trivial (live i (nn i ⟨b, c, hri⟩) hi) (live j (nn j ⟨b, c', hrj⟩) hj) hri hrj
    · have h1 : s.nx + 1 ≤ i := hi
      have e1 : i ≠ s.nx := by omega
      have e2 : i ≠ id := by intro e; subst e; rw [hI.hnil i (by omega)] at hH; cases hH
      simp only [putH, e1, e2, if_false]
      exact hI.hnil i (by omega)
  refine ⟨ρ, hI', ?_, fun _ _ => rfl⟩
  rintro b' ⟨i, c, _, hl, hri⟩
  exact ⟨i, c, trivial, live i (nn i ⟨b', c, hri⟩) hl, hri⟩

/-- A call's first state by its table. -/
def tabD : List D → Nat → List (Nat × PV)
  | [], _ => []
  | x :: r, i => (i, .d x) :: tabD r (i + 1)
theorem tabD_at : ∀ (l : List D) (i t : Nat), tab (tabD l i) (i + t) = initS l t
  | [], _, _ => by simp [tabD, tab, initS]
  | x :: r, i, 0 => by simp [tabD, tab, initS]
  | x :: r, i, t + 1 => by
    have := tabD_at r (i + 1) t
    unfold tabD tab
    rw [if_neg (by simp only; omega), show i + (t + 1) = i + 1 + t by omega, this]
    simp [initS]
theorem View.init {args : List D} {L : List (Nat × PV)} (h : L = tabD args 0) : View N 0 ⟨initS args, fun _ => none, 0, []⟩ ⟨tab L, tabH [], 0, []⟩ := by
  subst h
  have e1 : tab (tabD args 0) = initS args := by funext t; have := tabD_at args 0 t; rwa [Nat.zero_add] at this
  have e2 : tabH [] = fun _ => none := by funext i; rfl
  rw [e1, e2]
  exact View.refl (Nat.zero_le _)

/-! ### Results -/
def ResIs (P : Program) (s : St) (r : ResultVar) (p : PV) : Prop := (resP1 P s r).2 ∧ (resP1 P s r).1 = p
theorem ResIs.tmp {s : St} {t : Nat} {p : PV} (h : s.S t = p) : ResIs P s (.tmp t) p := ⟨trivial, h⟩
theorem ResIs.cell {s : St} {t id off n : Nat} {ty : TypeId} {ag : Bool} {l : List PV} {p : PV} (hx : s.S t = .vptr id off) (hH : s.H id = some (.var l)) (ht : tyA P ty = some (ag, n)) (h : LdV ag n off l p) : ResIs P s (.cell t ty) p := by
  unfold ResIs resP1
  simp only [hx, hH, loadV, ht]
  exact ⟨h.1, h.2⟩
def ResAll (P : Program) (s : St) : List ResultVar → List PV → Prop
  | [], [] => True
  | r :: rs, p :: ps => ResIs P s r p ∧ ResAll P s rs ps
  | _, _ => False
theorem ResAll.spec {s : St} : ∀ (rs : List ResultVar) (ps : List PV), ResAll P s rs ps → (rs.map fun r => (resP1 P s r).1) = ps ∧ ∀ r ∈ rs, (resP1 P s r).2
  | [], [], _ => ⟨rfl, by simp⟩
  | r :: rs, p :: ps, h => by
    obtain ⟨h1, h2⟩ := h
    have := ResAll.spec rs ps h2
    refine ⟨by rw [List.map_cons, this.1, h1.2], ?_⟩
    intro x hx
    rcases List.mem_cons.1 hx with rfl | hx
    · exact h1.1
    · exact this.2 x hx
  | [], _ :: _, h => h.elim
  | _ :: _, [], h => h.elim
theorem Ends.one {s : St} {r : ResultVar} {p : PV} {x y : D} {px : PX} (hp : px = .normal ∨ px = .ret) (hd : s.df = []) (h : ResIs P s r p) (ht : p.toD = some x) (e : x = y) : Ends P [r] (fun p => p.toD = some y) px s :=
  ⟨hp, hd, h.1, by show (resP1 P s r).1.toD = _; rw [h.2, ht, e]⟩
theorem Ends.none {s : St} {px : PX} (hp : px = .normal ∨ px = .ret) (hd : s.df = []) : Ends P [] (fun p => p.toD = some (.tuple [])) px s :=
  ⟨hp, hd, by simp [resP], rfl⟩
theorem resP_two {s : St} {r r' : ResultVar} {rs : List ResultVar} : resP P (r :: r' :: rs) s = (.tuple ((r :: r' :: rs).map fun r => (resP1 P s r).1), ∀ x ∈ r :: r' :: rs, (resP1 P s x).2) := rfl
theorem Ends.more {s : St} {r r' : ResultVar} {rs : List ResultVar} {ps : List PV} {x y : D} {px : PX} (hp : px = .normal ∨ px = .ret) (hd : s.df = []) (h : ResAll P s (r :: r' :: rs) ps) (ht : (PV.tuple ps).toD = some x) (e : x = y) : Ends P (r :: r' :: rs) (fun p => p.toD = some y) px s := by
  have := ResAll.spec _ _ h
  refine ⟨hp, hd, ?_, ?_⟩
  · rw [resP_two]; exact this.2
  · rw [resP_two]; show PV.toD (.tuple _) = _; rw [this.1, ht, e]

/-! ### Steps of what a function reckons -/
section
variable {C R α : Type}
def goS (f : C → Option R) : Option (C ⊕ R) → Option R
  | some (.inl c) => f c
  | some (.inr r) => some r
  | none => none
def run (step : C → Option (C ⊕ R)) : Nat → C → Option R
  | 0, _ => none
  | n + 1, c => goS (run step n) (step c)
/-- From c the steps come to r. -/
def Comes (step : C → Option (C ⊕ R)) (c : C) (r : R) : Prop := ∃ n, run step n c = some r
theorem Comes.stop {step : C → Option (C ⊕ R)} {c : C} {r : R} (h : step c = some (.inr r)) : Comes step c r := ⟨1, by simp only [run, h, goS]⟩
theorem Comes.next {step : C → Option (C ⊕ R)} {c c' : C} {r : R} (h : step c = some (.inl c')) (k : Comes step c' r) : Comes step c r := by
  obtain ⟨n, k⟩ := k
  exact ⟨n + 1, by simp only [run, h, goS]; exact k⟩
theorem run_succ {step : C → Option (C ⊕ R)} {n : Nat} {c : C} {r : R} (h : run step n c = some r) : ∃ m, n = m + 1 ∧ goS (run step m) (step c) = some r := by
  cases n with
  | zero => cases h
  | succ m => exact ⟨m, rfl, h⟩
/-- Where a condition must hold. -/
def gO (c : Prop) [Decidable c] (t : Option α) : Option α := if c then t else none
theorem gO_pos {c : Prop} [Decidable c] {t : Option α} (h : c) : gO c t = t := if_pos h
theorem gO_get {c : Prop} [Decidable c] {t : Option α} {r : α} (h : gO c t = some r) : c ∧ t = some r := by
  unfold gO at h
  split at h
  · exact ⟨by assumption, h⟩
  · cases h
theorem gG {f : C → Option R} {c : Prop} [Decidable c] {t : Option (C ⊕ R)} {r : R} (h : goS f (gO c t) = some r) : c ∧ goS f t = some r := by
  unfold gO at h
  split at h
  · exact ⟨by assumption, h⟩
  · cases h
theorem bT {b : Bool} {x y : Option α} {r : α} (h : (bif b then x else y) = some r) (hb : b = true) : x = some r := by subst hb; exact h
theorem bF {b : Bool} {x y : Option α} {r : α} (h : (bif b then x else y) = some r) (hb : b = false) : y = some r := by subst hb; exact h
theorem bGT {f : C → Option R} {b : Bool} {x y : Option (C ⊕ R)} {r : R} (h : goS f (bif b then x else y) = some r) (hb : b = true) : goS f x = some r := by subst hb; exact h
theorem bGF {f : C → Option R} {b : Bool} {x y : Option (C ⊕ R)} {r : R} (h : goS f (bif b then x else y) = some r) (hb : b = false) : goS f y = some r := by subst hb; exact h
theorem bO {β : Type} {g : Option β} {k : β → Option α} {r : α} (h : g.bind k = some r) : ∃ x, g = some x ∧ k x = some r := Option.bind_eq_some_iff.1 h
theorem bG {β : Type} {f : C → Option R} {g : Option β} {k : β → Option (C ⊕ R)} {r : R} (h : goS f (g.bind k) = some r) : ∃ x, g = some x ∧ goS f (k x) = some r := by
  cases g with
  | none => cases h
  | some x => exact ⟨x, rfl, h⟩
theorem sO {v r : α} (h : some v = some r) : v = r := Option.some.inj h
theorem sG {f : C → Option R} {v r : R} (h : goS f (some (.inr v)) = some r) : v = r := Option.some.inj h
theorem jG {f : C → Option R} {c : C} {r : R} (h : goS f (some (.inl c)) = some r) : f c = some r := h
end

/-! ### Operations that wait for a test -/
section
variable {ops : Array Oper} {o : Oper} {r : List Oper} {s : St}
theorem eqB {b w : Bool} (h : (b == w) = true) : b = w := by simpa using h
theorem condsOK_true {S : Nat → PV} : ∀ {l : List Operand}, condsOK true S l → ∀ x ∈ l, ∀ m ρ u, Rep m ρ (evP S x) u → Rep m ρ (asCond (evP S x)).2 u
  | [], _, x, hx => by cases hx
  | y :: r, h, x, hx => by
    intro m ρ u hr
    rcases List.mem_cons.1 hx with rfl | hx
    · exact asCond_rep hr (h.1 rfl)
    · exact condsOK_true h.2 x hx m ρ u hr
theorem step_gd {g : Bool} {v : PV} {T : List Nat} (hn : ∀ i, s.nx ≤ i → s.H i = none) (hg : guardP ops o s.S = some g) (hc : condsOK g s.S o.op.operands.toList)
    (h : g = true → stepF P [] o ⟨unS s.S, s.H, s.nx, s.df⟩ fun v' H' nx' T' W => (W = [] ∧ nx' = s.nx ∧ T' = T) ∧ H' = s.H ∧ Imp v' v) (hT : g = false → ∀ i ∈ T, i < s.nx) : StepOp P ops o s (.cond g v) s.H ⟨T, [], s.nx, s.nx⟩ := by
  refine .gd hg ?_ ?_
  · cases g with
    | false => exact hT rfl
    | true =>
      obtain ⟨v', H', nx', T', W, h1, ⟨⟨rfl, rfl, rfl⟩, rfl, _⟩⟩ := stepF_sound (s := ⟨unS s.S, s.H, s.nx, s.df⟩) hn (h rfl)
      exact h1.old
  · rintro rfl
    obtain ⟨v', H', nx', T', W, h1, ⟨⟨rfl, rfl, rfl⟩, rfl, hi⟩⟩ := stepF_sound (s := ⟨unS s.S, s.H, s.nx, s.df⟩) hn (h rfl)
    refine ⟨unS s.S, fun x hx m ρ u hr => ?_, h1.imp hi⟩
    rw [evP_unS]
    exact condsOK_true hc x (by simpa using hx) m ρ u hr
theorem step_oa {v : PV} {T : List Nat} (hn : ∀ i, s.nx ≤ i → s.H i = none) (hg : guardP ops o s.S = some true)
    (h : stepF P [] o ⟨unT s.S, s.H, s.nx, s.df⟩ fun v' H' nx' T' W => (W = [] ∧ nx' = s.nx ∧ T' = T) ∧ H' = s.H ∧ Imp v' v) : StepOp P ops o s (.cond true v) s.H ⟨T, [], s.nx, s.nx⟩ := by
  obtain ⟨v', H', nx', T', W, h1, ⟨⟨rfl, rfl, rfl⟩, rfl, hi⟩⟩ := stepF_sound (s := ⟨unT s.S, s.H, s.nx, s.df⟩) hn h
  refine .gd hg h1.old fun _ => ⟨unT s.S, fun x hx m ρ u hr => ?_, h1.imp hi⟩
  rw [evP_unT]
  exact unC_rep hr
variable {S : Nat → PV} {H : HM} {nx : Nat} {df : List (Nat × List PV)}
theorem XK.gd {Q : PX → St → Prop} {g : Bool} {v : PV} {T : List Nat} (d : Option Nat) (hd : o.dst = d) (hg : guardP ops o S = some g) (hc : condsOK g S o.op.operands.toList)
    (h : g = true → stepF P [] o ⟨unS S, H, nx, df⟩ fun v' H' nx' T' W => (W = [] ∧ nx' = nx ∧ T' = T) ∧ H' = H ∧ Imp v' v) (hT : g = false → ∀ i ∈ T, i < nx)
    (k : XK P ops r ⟨putS S d (.cond g v), H, nx, df⟩ Q) : XK P ops (o :: r) ⟨S, H, nx, df⟩ Q := by subst hd; exact fun hn => .step (step_gd hn hg hc h hT) (k hn)
theorem RQ.gd {Q : St → Prop} {g : Bool} {v : PV} {T : List Nat} (d : Option Nat) (hd : o.dst = d) (hg : guardP ops o S = some g) (hc : condsOK g S o.op.operands.toList)
    (h : g = true → stepF P [] o ⟨unS S, H, nx, df⟩ fun v' H' nx' T' W => (W = [] ∧ nx' = nx ∧ T' = T) ∧ H' = H ∧ Imp v' v) (hT : g = false → ∀ i ∈ T, i < nx)
    (k : RQ P ops r ⟨putS S d (.cond g v), H, nx, df⟩ Q) : RQ P ops (o :: r) ⟨S, H, nx, df⟩ Q := by
  intro hn
  subst hd
  obtain ⟨s', L, h4, h5, h6⟩ := k hn
  refine ⟨s', _, .cons (step_gd hn hg hc h hT) h4, ?_, h6⟩
  intro R hR
  rcases List.mem_cons.1 hR with rfl | hR
  · exact ⟨rfl, rfl⟩
  · exact h5 R hR
theorem RK.gd {acc : List Rec} {K : St → List Rec → Prop} {g : Bool} {v : PV} {T : List Nat} (d : Option Nat) (hd : o.dst = d) (hg : guardP ops o S = some g) (hc : condsOK g S o.op.operands.toList)
    (h : g = true → stepF P [] o ⟨unS S, H, nx, df⟩ fun v' H' nx' T' W => (W = [] ∧ nx' = nx ∧ T' = T) ∧ H' = H ∧ Imp v' v) (hT : g = false → ∀ i ∈ T, i < nx)
    (k : RK P ops r ⟨putS S d (.cond g v), H, nx, df⟩ (⟨T, [], nx, nx⟩ :: acc) K) : RK P ops (o :: r) ⟨S, H, nx, df⟩ acc K := by
  intro hn
  subst hd
  obtain ⟨s', L, h4, h5⟩ := k hn
  exact ⟨s', _, .cons (step_gd hn hg hc h hT) h4, by simpa using h5⟩
/-- A test that holds. -/
theorem XK.oa {Q : PX → St → Prop} {v : PV} {T : List Nat} (d : Option Nat) (hd : o.dst = d) (hg : guardP ops o S = some true) (h : stepF P [] o ⟨unT S, H, nx, df⟩ fun v' H' nx' T' W => (W = [] ∧ nx' = nx ∧ T' = T) ∧ H' = H ∧ Imp v' v)
    (k : XK P ops r ⟨putS S d (.cond true v), H, nx, df⟩ Q) : XK P ops (o :: r) ⟨S, H, nx, df⟩ Q := by subst hd; exact fun hn => .step (step_oa hn hg h) (k hn)
theorem RQ.oa {Q : St → Prop} {v : PV} {T : List Nat} (d : Option Nat) (hd : o.dst = d) (hg : guardP ops o S = some true) (h : stepF P [] o ⟨unT S, H, nx, df⟩ fun v' H' nx' T' W => (W = [] ∧ nx' = nx ∧ T' = T) ∧ H' = H ∧ Imp v' v)
    (k : RQ P ops r ⟨putS S d (.cond true v), H, nx, df⟩ Q) : RQ P ops (o :: r) ⟨S, H, nx, df⟩ Q := by
  intro hn
  subst hd
  obtain ⟨s', L, h4, h5, h6⟩ := k hn
  refine ⟨s', _, .cons (step_oa hn hg h) h4, ?_, h6⟩
  intro R hR
  rcases List.mem_cons.1 hR with rfl | hR
  · exact ⟨rfl, rfl⟩
  · exact h5 R hR
theorem RK.oa {acc : List Rec} {K : St → List Rec → Prop} {v : PV} {T : List Nat} (d : Option Nat) (hd : o.dst = d) (hg : guardP ops o S = some true) (h : stepF P [] o ⟨unT S, H, nx, df⟩ fun v' H' nx' T' W => (W = [] ∧ nx' = nx ∧ T' = T) ∧ H' = H ∧ Imp v' v)
    (k : RK P ops r ⟨putS S d (.cond true v), H, nx, df⟩ (⟨T, [], nx, nx⟩ :: acc) K) : RK P ops (o :: r) ⟨S, H, nx, df⟩ acc K := by
  intro hn
  subst hd
  obtain ⟨s', L, h4, h5⟩ := k hn
  exact ⟨s', _, .cons (step_oa hn hg h) h4, by simpa using h5⟩

variable {frz : List Nat} {k : PV → HM → Nat → List Nat → List Nat → Prop}
theorem sf_pickG {c x y : Operand} {b u v gx gy : Bool} (ho : o.op = .pick c x y) (hc : evP S c = .d (.val (.bool b))) (hx : asCond (evP S x) = (gx, .d (.val (.bool u)))) (hy : asCond (evP S y) = (gy, .d (.val (.bool v)))) (h1 : b = true → gx = true) (h2 : b = false → gy = true)
    (hk : k (.d (.val (.bool (bif b then u else v)))) H nx [] []) : stepF P frz o ⟨S, H, nx, df⟩ k := by
  unfold stepF; rw [ho]
  simp only [pureF, pickP, hc, hx, hy]
  exact ⟨⟨h1, h2⟩, hk⟩
theorem sf_pickA {c x y : Operand} {b u gx gy : Bool} (ho : o.op = .pick c x y) (hc : evP S c = .d (.val (.bool b))) (hx : asCond (evP S x) = (gx, .d (.val (.bool u)))) (hy : asCond (evP S y) = (gy, .d (.val (.bool false)))) (h1 : b = true → gx = true) (h2 : b = false → gy = true)
    (hk : k (.d (.val (.bool (b && u)))) H nx [] []) : stepF P frz o ⟨S, H, nx, df⟩ k :=
  sf_pickG ho hc hx hy h1 h2 (by cases b <;> exact hk)
theorem sf_pickO {c x y : Operand} {b v gx gy : Bool} (ho : o.op = .pick c x y) (hc : evP S c = .d (.val (.bool b))) (hx : asCond (evP S x) = (gx, .d (.val (.bool true)))) (hy : asCond (evP S y) = (gy, .d (.val (.bool v)))) (h1 : b = true → gx = true) (h2 : b = false → gy = true)
    (hk : k (.d (.val (.bool (b || v)))) H nx [] []) : stepF P frz o ⟨S, H, nx, df⟩ k :=
  sf_pickG ho hc hx hy h1 h2 (by cases b <;> exact hk)
theorem inI_u8 (a : UInt8) : inI (a.toNat : Int) := by have := byte_lt a; unfold inI; omega
end
end Go.Proofs.Ytonlehebfeilmaa.K
