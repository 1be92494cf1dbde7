/- Walks whose states are set anew at will: slots forgotten, owned blocks numbered anew. -/
import Derived.Test.YtonlehebfeilmaaK29
namespace Go.Proofs.Ytonlehebfeilmaa.K
open Go Go.RowKit

variable {P : Program} {N : Nat}

structure AdvB (b : Nat) (m0 : Mem) (ρ0 : Ren) (w0 : World) (H0 : HM) (n : Nat) (m : Mem) (ρ : Ren) (w : World) (H : HM) : Prop where
  ext : Ext (Blk ρ0 H0 fun _ => True) m0 w0 m w
  place : ∀ c, Blk ρ H (fun _ => True) c → Blk ρ0 H0 (fun _ => True) c ∨ w0.heap.size ≤ c
  le : b ≤ n
  old : ∀ i, i < b → ρ i = ρ0 i

theorem Adv.toB {b n0 n : Nat} {m0 m : Mem} {ρ0 ρ : Ren} {w0 w : World} {H0 H : HM} (h : Adv n0 m0 ρ0 w0 H0 n m ρ w H) (hb : b ≤ n0) : AdvB b m0 ρ0 w0 H0 n m ρ w H :=
  ⟨h.ext, h.place, Nat.le_trans hb h.le, fun i hi => h.old i (Nat.lt_of_lt_of_le hi hb)⟩

theorem AdvB.trans {b n1 n2 : Nat} {m0 m1 m2 : Mem} {ρ0 ρ1 ρ2 : Ren} {w0 w1 w2 : World} {H0 H1 H2 : HM} (h : AdvB b m0 ρ0 w0 H0 n1 m1 ρ1 w1 H1) (k : AdvB b m1 ρ1 w1 H1 n2 m2 ρ2 w2 H2) :
    AdvB b m0 ρ0 w0 H0 n2 m2 ρ2 w2 H2 :=
  ⟨h.ext.trans k.ext h.place, fun c hc => (k.place c hc).elim (h.place c) (fun x => .inr (Nat.le_trans h.ext.size x)), k.le, fun i hi => (k.old i hi).trans (h.old i hi)⟩

def PostB (N b : Nat) (m0 : Mem) (ρ0 : Ren) (w0 : World) (H0 : HM) (Q : PX → St → Prop) (e : Exit) (a : Act) (w : World) : Prop :=
  ∃ px s m ρ, Q px s ∧ RX m ρ px e ∧ Inv N s m ρ a w ∧ AdvB b m0 ρ0 w0 H0 s.nx m ρ w s.H

/-- Code c, begun in the pure state s, ends by Q; the numbers below b stay. -/
def QW (P : Program) (N b : Nat) (c : Code) (s : St) (Q : PX → St → Prop) : Prop :=
  b ≤ s.nx ∧ ∀ m ρ a w, Inv N s m ρ a w → c.wp P (PostB N b m ρ w s.H Q) a w

theorem PostB.of_adv {b n1 : Nat} {m0 m1 : Mem} {ρ0 ρ1 : Ren} {w0 w1 : World} {H0 H1 : HM} {Q : PX → St → Prop} {e : Exit} {a : Act} {w : World} (hA : AdvB b m0 ρ0 w0 H0 n1 m1 ρ1 w1 H1)
    (h : PostB N b m1 ρ1 w1 H1 Q e a w) : PostB N b m0 ρ0 w0 H0 Q e a w := by
  obtain ⟨px, s, m, ρ, h1, h2, h3, h4⟩ := h
  exact ⟨px, s, m, ρ, h1, h2, h3, hA.trans h4⟩

variable {b : Nat}
theorem QW.region {id : Nat} {ops : Array Oper} {g : Bool} {s : St} {Q : PX → St → Prop} (hb : b ≤ s.nx) (h : PW P N (.region id ops g) s Q) : QW P N b (.region id ops g) s Q := by
  refine ⟨hb, fun m ρ a w hI => wp_mono (h m ρ a w hI) ?_⟩
  rintro e a' w' ⟨px, s', m', ρ', h1, h2, h3, h4⟩
  exact ⟨px, s', m', ρ', h1, h2, h3, h4.toB hb⟩

theorem QW.seq {x y : Code} {s : St} {Q : PX → St → Prop} (h : QW P N b x s (PX.then (fun s' => QW P N b y s' Q) Q)) : QW P N b (.seq x y) s Q := by
  refine ⟨h.1, fun m ρ a w hI => ?_⟩
  refine wp_seq (wp_mono (h.2 m ρ a w hI) ?_)
  rintro e a' w' ⟨px, s', m', ρ', hq, hr, hI', hA⟩
  cases px with
  | normal =>
    simp only [RX] at hr
    subst hr
    exact wp_mono (hq.2 m' ρ' a' w' hI') fun _ _ _ hp => hp.of_adv hA
  | exit i => simp only [RX] at hr; subst hr; exact ⟨.exit i, s', m', ρ', hq, rfl, hI', hA⟩
  | ret => simp only [RX] at hr; subst hr; exact ⟨.ret, s', m', ρ', hq, rfl, hI', hA⟩
  | panic p => obtain ⟨v, rfl, hv⟩ := hr; exact ⟨.panic p, s', m', ρ', hq, ⟨v, rfl, hv⟩, hI', hA⟩

theorem QW.skip {s : St} {Q : PX → St → Prop} (hb : b ≤ s.nx) (h : Q .normal s) : QW P N b .skip s Q :=
  ⟨hb, fun m ρ _ _ hI => wp_skip ⟨.normal, s, m, ρ, h, rfl, hI, (Adv.refl _ _ _ _ _).toB hb⟩⟩

theorem QW.exit {id : Nat} {s : St} {Q : PX → St → Prop} (hb : b ≤ s.nx) (h : Q (.exit id) s) : QW P N b (.exit id) s Q :=
  ⟨hb, fun m ρ _ _ hI => wp_exit ⟨.exit id, s, m, ρ, h, rfl, hI, (Adv.refl _ _ _ _ _).toB hb⟩⟩

theorem QW.ret {s : St} {Q : PX → St → Prop} (hb : b ≤ s.nx) (h : Q .ret s) : QW P N b .ret s Q :=
  ⟨hb, fun m ρ _ _ hI => wp_ret ⟨.ret, s, m, ρ, h, rfl, hI, (Adv.refl _ _ _ _ _).toB hb⟩⟩

theorem QW.cond {c : Operand} {x y : Code} {s : St} {Q : PX → St → Prop} {t : Bool} (hc : evP s.S c = .d (.val (.bool t))) (hb : b ≤ s.nx) (h1 : t = true → QW P N b x s Q) (h2 : t = false → QW P N b y s Q) :
    QW P N b (.cond c x y) s Q := by
  refine ⟨hb, fun m ρ a w hI => ?_⟩
  have hr := rep_eval hI.slots c
  rw [hc] at hr
  simp only [Rep, RepD] at hr
  exact wp_cond_split hr (fun hb => (h1 hb).2 m ρ a w hI) (fun hb => (h2 hb).2 m ρ a w hI)

theorem QW.condT {c : Operand} {x y : Code} {s : St} {Q : PX → St → Prop} (hc : evP s.S c = .d (.val (.bool true))) (h1 : QW P N b x s Q) : QW P N b (.cond c x y) s Q :=
  QW.cond hc h1.1 (fun _ => h1) (fun h => nomatch h)
theorem QW.condF {c : Operand} {x y : Code} {s : St} {Q : PX → St → Prop} (hc : evP s.S c = .d (.val (.bool false))) (h1 : QW P N b y s Q) : QW P N b (.cond c x y) s Q :=
  QW.cond hc h1.1 (fun h => nomatch h) (fun _ => h1)

theorem QW.block {id : Nat} {c : Code} {s : St} {Q : PX → St → Prop} (h : QW P N b c s (PX.inBlock id Q)) : QW P N b (.block id c) s Q := by
  refine ⟨h.1, fun m ρ a w hI => ?_⟩
  refine wp_block (wp_mono (h.2 m ρ a w hI) ?_)
  rintro e a' w' ⟨px, s', m', ρ', hq, hr, hI', hA⟩
  cases px with
  | normal => simp only [RX] at hr; subst hr; exact ⟨.normal, s', m', ρ', hq, rfl, hI', hA⟩
  | exit i =>
    simp only [RX] at hr; subst hr
    simp only [PX.inBlock] at hq
    simp only [Exit.inBlock]
    split
    · rename_i he
      rw [if_pos he] at hq
      exact ⟨.normal, s', m', ρ', hq, rfl, hI', hA⟩
    · rename_i he
      rw [if_neg he] at hq
      exact ⟨.exit i, s', m', ρ', hq, rfl, hI', hA⟩
  | ret => simp only [RX] at hr; subst hr; exact ⟨.ret, s', m', ρ', hq, rfl, hI', hA⟩
  | panic p => obtain ⟨v, rfl, hv⟩ := hr; exact ⟨.panic p, s', m', ρ', hq, ⟨v, rfl, hv⟩, hI', hA⟩

/-- s may be taken for s'. -/
def View (N b : Nat) (s s' : St) : Prop :=
  ∀ m ρ a w, Inv N s m ρ a w → ∃ m' ρ', Inv N s' m' ρ' a w ∧ AdvB b m ρ w s.H s'.nx m' ρ' w s'.H

theorem View.of {s s' : St} (hb : b ≤ s'.nx) (h : ∀ m ρ a w, Inv N s m ρ a w → ∃ ρ', Inv N s' m ρ' a w ∧ (∀ c, Blk ρ' s'.H (fun _ => True) c → Blk ρ s.H (fun _ => True) c) ∧ ∀ i, i < b → ρ' i = ρ i) : View N b s s' := by
  intro m ρ a w hI
  obtain ⟨ρ', hI', hB, ho⟩ := h m ρ a w hI
  exact ⟨m, ρ', hI', ⟨Ext.refl _ _ _, fun c hc => .inl (hB c hc), hb, ho⟩⟩

theorem QW.view {c : Code} {s s' : St} {Q : PX → St → Prop} (hv : View N b s s') (hb : b ≤ s.nx) (h : QW P N b c s' Q) : QW P N b c s Q := by
  refine ⟨hb, fun m ρ a w hI => ?_⟩
  obtain ⟨m', ρ', hI', hA⟩ := hv m ρ a w hI
  exact wp_mono (h.2 m' ρ' a w hI') fun _ _ _ hp => hp.of_adv hA

theorem View.refl {s : St} (h : b ≤ s.nx) : View N b s s := View.of h fun _ ρ _ _ hI => ⟨ρ, hI, fun _ h => h, fun _ _ => rfl⟩

/-- A loop. -/
theorem QW.loop {c : Code} {s : St} {Q : PX → St → Prop} (I : Nat → St → Prop) (k : Nat) (hb : b ≤ s.nx) (h0 : ∃ s0, View N b s s0 ∧ I k s0) (round : ∀ k s, I k s → QW P N b c s (PX.then (fun s' => ∃ j, j < k ∧ ∃ s'', View N b s' s'' ∧ I j s'') Q)) : QW P N b (.loop c) s Q := by
  refine ⟨hb, fun m ρ a w hI => ?_⟩
  let R : Act → World → Nat → Prop := fun a' w' k => ∃ s' m' ρ', I k s' ∧ Inv N s' m' ρ' a' w' ∧ AdvB b m ρ w s.H s'.nx m' ρ' w' s'.H
  have hex : R a w k := by
    obtain ⟨s0, hv, hi⟩ := h0
    obtain ⟨m', ρ', hI', hA⟩ := hv m ρ a w hI
    exact ⟨s0, m', ρ', hi, hI', hA⟩
  open Classical in
  refine wp_loop (fun a' w' => ∃ k, R a' w' k) (fun a' w' => if h : ∃ k, R a' w' k ∧ ∀ j, R a' w' j → k ≤ j then Classical.choose h else 0) ⟨_, hex⟩ ?_
  intro a1 w1 h1
  obtain ⟨k1, h1'⟩ := h1
  have h1 := least k1 h1'
  have hspec := Classical.choose_spec h1
  generalize hk : Classical.choose h1 = kk at hspec
  obtain ⟨⟨s1, m1, ρ1, i1, v1, A1⟩, hmin⟩ := hspec
  refine wp_mono ((round kk s1 i1).2 m1 ρ1 a1 w1 v1) ?_
  rintro e a' w' ⟨px, s', m', ρ', hq, hr, hI', hA⟩
  cases px with
  | normal =>
    simp only [RX] at hr; subst hr
    obtain ⟨j, hlt, s'', hv, hi⟩ := hq
    obtain ⟨m2, ρ2, hI2, hA2⟩ := hv m' ρ' a' w' hI'
    have h2' : R a' w' j := ⟨s'', m2, ρ2, hi, hI2, (A1.trans hA).trans hA2⟩
    have h2 := least _ h2'
    refine ⟨⟨_, h2'⟩, ?_⟩
    simp only [dif_pos h1, dif_pos h2, hk]
    have := (Classical.choose_spec h2).2 _ h2'
    omega
  | exit i => simp only [RX] at hr; subst hr; exact ⟨.exit i, s', m', ρ', hq, rfl, hI', A1.trans hA⟩
  | ret => simp only [RX] at hr; subst hr; exact ⟨.ret, s', m', ρ', hq, rfl, hI', A1.trans hA⟩
  | panic p => obtain ⟨v, rfl, hv⟩ := hr; exact ⟨.panic p, s', m', ρ', hq, ⟨v, rfl, hv⟩, hI', A1.trans hA⟩

/-! ### Numbers changed -/
mutual
def PV.re (f : Nat → Nat) : PV → PV
  | .d x => .d x
  | .full l => .full l
  | .own id l => .own (f id) l
  | .vptr id off => .vptr (f id) off
  | .clo g l => .clo g (PV.res f l)
  | .agg l => .agg (PV.res f l)
  | .tuple l => .tuple (PV.res f l)
  | .cond g p => .cond g (PV.re f p)
  | .junk => .junk
def PV.res (f : Nat → Nat) : List PV → List PV
  | [] => []
  | x :: r => PV.re f x :: PV.res f r
end
theorem PV.res_d (f : Nat → Nat) : ∀ l : List D, PV.res f (l.map .d) = l.map .d
  | [] => rfl
  | x :: r => by simp only [List.map_cons, PV.res, PV.re, PV.res_d f r]

mutual
theorem Rep.re {m : Mem} {ρ : Ren} {f : Nat → Nat} : ∀ (p : PV) (v : Value), Rep m ρ (p.re f) v → Rep m (fun i => ρ (f i)) p v
  | .d x, v, e => by simpa [PV.re, Rep] using e
  | .full l, v, e => by simpa [PV.re, Rep] using e
  | .own id l, v, e => by simpa [PV.re, Rep] using e
  | .vptr id off, v, e => by simpa [PV.re, Rep] using e
  | .clo g l, v, e => by
    simp only [PV.re, Rep] at e ⊢
    obtain ⟨vs, e1, e2⟩ := e
    exact ⟨vs, e1, RepP.re l vs e2⟩
  | .agg l, v, e => by
    simp only [PV.re, Rep] at e ⊢
    obtain ⟨vs, e1, e2, e3⟩ := e
    exact ⟨vs, e1, RepP.re l vs e2, e3⟩
  | .tuple l, v, e => by
    simp only [PV.re, Rep] at e ⊢
    obtain ⟨vs, e1, e2⟩ := e
    exact ⟨vs, e1, RepP.re l vs e2⟩
  | .cond g p, v, e => by
    simp only [PV.re, Rep] at e ⊢
    exact ⟨fun h => Rep.re p v (e.1 h), e.2⟩
  | .junk, v, e => by simp [Rep]
theorem RepP.re {m : Mem} {ρ : Ren} {f : Nat → Nat} : ∀ (l : List PV) (vs : List Value), RepP m ρ (PV.res f l) vs → RepP m (fun i => ρ (f i)) l vs
  | [], vs, e => by simpa [PV.res, RepP] using e
  | x :: r, vs, e => by
    simp only [PV.res, RepP] at e ⊢
    obtain ⟨v, vr, e1, e2, e3⟩ := e
    exact ⟨v, vr, e1, Rep.re x v e2, RepP.re r vr e3⟩
end

def HO.re (f : Nat → Nat) : HO → HO
  | .var l => .var (PV.res f l)
  | .spare sz n => .spare sz n
def dfRe (f : Nat → Nat) : List (Nat × List PV) → List (Nat × List PV)
  | [] => []
  | x :: r => (x.1, PV.res f x.2) :: dfRe f r
theorem DfOK.re {m : Mem} {ρ : Ren} {f : Nat → Nat} : ∀ (l : List (Nat × List PV)) (ds : List Deferred), DfOK m ρ (dfRe f l) ds → DfOK m (fun i => ρ (f i)) l ds
  | [], _, h => h
  | x :: r, _, h => by
    obtain ⟨d, l', e1, e2, e3, e4⟩ := h
    exact ⟨d, l', e1, e2, RepP.re _ _ e3, DfOK.re r l' e4⟩

def Imp (p q : PV) : Prop := ∀ m ρ v, Rep m ρ p v → Rep m ρ q v
theorem Imp.refl {p : PV} : Imp p p := fun _ _ _ h => h
theorem Imp.toD {p : PV} {x : D} (h : p.toD = some x) : Imp p (.d x) := fun _ _ v e => by
  simp only [Rep]; exact Rep.toD p x v h e
theorem Imp.of_eq {p q : PV} (h : p = q) : Imp p q := h ▸ Imp.refl
theorem Imp.junk {p : PV} : Imp p .junk := fun _ _ _ _ => by simp [Rep]

/-- A state by its table. -/
def tab : List (Nat × PV) → Nat → PV
  | [], _ => .junk
  | x :: r, t => if t = x.1 then x.2 else tab r t
def tabH : List HO → Nat → Option HO
  | [], _ => none
  | x :: _, 0 => some x
  | _ :: r, i + 1 => tabH r i

def AtR (f : Nat → Nat) (S : Nat → PV) : List (Nat × PV) → Prop
  | [] => True
  | x :: r => Imp (S x.1) (x.2.re f) ∧ AtR f S r
def AtHR (f : Nat → Nat) (H : HM) : List HO → Nat → Prop
  | [], _ => True
  | x :: r, i => H (f i) = some (x.re f) ∧ AtHR f H r (i + 1)

theorem tab_re {f : Nat → Nat} {S : Nat → PV} {m : Mem} {ρ : Ren} {t : Nat} {v : Value} (h : Rep m ρ (S t) v) : ∀ (L : List (Nat × PV)), AtR f S L → Rep m (fun i => ρ (f i)) (tab L t) v
  | [], _ => by simp [tab, Rep]
  | x :: r, hL => by
    unfold tab
    split
    · rename_i e
      subst e
      exact Rep.re _ _ (hL.1 _ _ _ h)
    · exact tab_re h r hL.2
theorem tabH_get {f : Nat → Nat} {H : HM} : ∀ (M : List HO) (k i : Nat) (o : HO), AtHR f H M k → tabH M i = some o → i < M.length ∧ H (f (k + i)) = some (o.re f)
  | [], _, _, _, _, h => by simp [tabH] at h
  | x :: r, k, 0, o, hM, h => by
    simp only [tabH, Option.some.injEq] at h
    subst h
    exact ⟨by simp, hM.1⟩
  | x :: r, k, i + 1, o, hM, h => by
    have := tabH_get r (k + 1) i o hM.2 h
    exact ⟨by simp; omega, by rw [show k + (i + 1) = k + 1 + i by omega]; exact this.2⟩

def fOf (F : List Nat) (nx i : Nat) : Nat := F.getD i (nx + i)

theorem EntryOK.re {m : Mem} {ρ ρ' : Ren} {w : World} {i j : Nat} {f : Nat → Nat} {o : HO} (hr : ρ' i = ρ j) (hρ : ∀ p v, Rep m ρ (PV.re f p) v → Rep m ρ' p v) (h : EntryOK m ρ w j (o.re f)) : EntryOK m ρ' w i o := by
  cases o with
  | var l =>
    simp only [HO.re, EntryOK] at h ⊢
    obtain ⟨b, c, vs, t, e1, e2, e3, e4⟩ := h
    refine ⟨b, c, vs, t, by rw [hr]; exact e1, e2, ?_, e4⟩
    have : ∀ (l : List PV) (vs : List Value), RepP m ρ (PV.res f l) vs → RepP m ρ' l vs := by
      intro l
      induction l with
      | nil => intro vs h; simpa [PV.res, RepP] using h
      | cons x r ih =>
        intro vs h
        simp only [PV.res, RepP] at h ⊢
        obtain ⟨v, vr, e1, e2, e3⟩ := h
        exact ⟨v, vr, e1, hρ _ _ e2, ih _ e3⟩
    exact this l vs e3
  | spare sz n =>
    simp only [HO.re, EntryOK] at h ⊢
    rw [hr]
    exact h

/-- The numbers of M's blocks are 0, 1, ..; F tells what they were. -/
theorem View.mk {s : St} (n : Nat) (F : List Nat) (L : List (Nat × PV)) (M : List HO) (df : List (Nat × List PV)) (hn : M.length = n) (hF : F.length = M.length) (hd : F.Nodup) (hS : AtR (fOf F s.nx) s.S L) (hH : AtHR (fOf F s.nx) s.H M 0) (hdf : s.df = dfRe (fOf F s.nx) df)
    (hb : b ≤ M.length) (hfix : F.take b = List.range b) : View N b s ⟨tab L, tabH M, n, df⟩ := by
  subst hn
  refine View.of hb fun m ρ a w hI => ?_
  have hbig : ∀ i, M.length ≤ i → ρ (fOf F s.nx i) = none := by
    intro i hi
    have : fOf F s.nx i = s.nx + i := by
      unfold fOf
      rw [List.getD_eq_getElem?_getD, List.getElem?_eq_none (by omega)]; rfl
    rw [this]
    exact hI.rnil _ (Nat.le_add_right _ _)
  have hsm : ∀ i, i < M.length → ∃ x, F[i]? = some x ∧ fOf F s.nx i = x := by
    intro i hi
    refine ⟨F[i]'(by omega), List.getElem?_eq_getElem (by omega), ?_⟩
    unfold fOf
    rw [List.getD_eq_getElem?_getD, List.getElem?_eq_getElem (by omega)]; rfl
  have hlive : ∀ i o, tabH M i = some o → i < M.length ∧ s.H (fOf F s.nx i) = some (o.re (fOf F s.nx)) := by
    intro i o h
    have := tabH_get M 0 i o hH h
    rw [Nat.zero_add] at this
    exact this
  have hne : ∀ i, tabH M i ≠ none → i < M.length ∧ s.H (fOf F s.nx i) ≠ none := by
    intro i h
    cases hh : tabH M i with
    | none => exact absurd hh h
    | some o => have := hlive i o hh; exact ⟨this.1, by rw [this.2]; simp⟩
  refine ⟨fun i => ρ (fOf F s.nx i), ⟨hI.size, ?_, ?_, ⟨hI.valid.mem, ?_, ?_⟩, ?_, hbig⟩, ?_, ?_⟩
  · have := hI.defers
    rw [hdf] at this
    exact DfOK.re df _ this
  · intro t
    exact tab_re (hI.slots t) L hS
  · intro i o _ ho
    have := hlive i o ho
    exact EntryOK.re rfl (fun p v h => Rep.re p v h) (hI.valid.entry _ _ trivial this.2)
  · intro i j c d d' _ _ hi hj hri hrj
    have h1 := hne i hi
    have h2 := hne j hj
    have := hI.valid.apart _ _ _ _ _ trivial trivial h1.2 h2.2 hri hrj
    obtain ⟨x, hx, ex⟩ := hsm i h1.1
    obtain ⟨y, hy, ey⟩ := hsm j h2.1
    rw [ex, ey] at this
    subst this
    have e1 := List.getElem?_eq_some_iff.1 hx
    have e2 := List.getElem?_eq_some_iff.1 hy
    obtain ⟨l1, e1⟩ := e1
    obtain ⟨l2, e2⟩ := e2
    exact (List.getElem_inj hd).1 (e1.trans e2.symm)
  · intro i hi
    cases hh : tabH M i with
    | none => exact hh
    | some o => have := (hlive i o hh).1; have hi' : M.length ≤ i := hi; omega
  · rintro c ⟨i, d, _, hl, hr⟩
    exact ⟨fOf F s.nx i, d, trivial, (hne i hl).2, hr⟩
  · intro i hi
    have h1 : F[i]? = some i := by
      have h2 : (F.take b)[i]? = (List.range b)[i]? := by rw [hfix]
      rw [List.getElem?_take, if_pos hi, List.getElem?_range hi] at h2
      exact h2
    show ρ (fOf F s.nx i) = ρ i
    unfold fOf
    rw [List.getD_eq_getElem?_getD, h1]; rfl

theorem Fun.of_bodyQ {f : Nat} {fn : Func} {c : Code} {args : List D} {res : D} (hf : P.funcs[f]? = some fn) (hb : fn.body = some c) (hN : args.length ≤ fn.ntmps)
    (h : QW P fn.ntmps 0 c ⟨initS args, fun _ => none, 0, []⟩ (Ends P fn.results.toList fun p => p.toD = some res)) : Fun P f args res := by
  intro m w vs hm hr
  refine calls_of_wp hf hb (wp_mono (h.2 m _ _ w (init_inv hm hr hN)) ?_)
  rintro e a w' ⟨px, s, m', ρ', ⟨hpx, hdf, hres, hp⟩, hrx, hI, hA⟩
  obtain ⟨v, hv, hrep⟩ := run_results (P := P) hI hres
  have hd := hI.defers
  rw [hdf] at hd
  have hE : Ext (fun _ => False) m w m' w' := hA.ext.mono (by rintro b ⟨i, c, _, h, _⟩; exact absurd rfl h)
  have key : a.defers = [] ∧ ∃ v, (results fn a.tmps).run P w' = .ok v w' ∧ ∃ v_1 m', Ending.returned v = .returned v_1 ∧ RepD m' res v_1 ∧ MemOK m' w' ∧ Ext (fun _ => False) m w m' w' :=
    ⟨hd, v, hv, v, m', rfl, Rep.toD _ _ _ hp hrep, hI.valid.mem, hE⟩
  rcases hpx with rfl | rfl <;> simp only [RX] at hrx <;> subst hrx <;> exact key

theorem AdvB.toAdv {n0 n : Nat} {m0 m : Mem} {ρ0 ρ : Ren} {w0 w : World} {H0 H : HM} (h : AdvB n0 m0 ρ0 w0 H0 n m ρ w H) (hρ : ∀ i, n0 ≤ i → ρ0 i = none) : Adv n0 m0 ρ0 w0 H0 n m ρ w H :=
  ⟨h.ext, fun i x e => by
    rcases Nat.lt_or_ge i n0 with h1 | h1
    · rw [h.old i h1, e]
    · rw [hρ i h1] at e; exact absurd e (by simp), h.place, h.le, h.old⟩

theorem Spec.of_bodyQ {f : Nat} {fn : Func} {c : Code} {args : List PV} {H : HM} {nx : Nat} {post : Out → HM → Nat → Prop} (hf : P.funcs[f]? = some fn) (hb : fn.body = some c) (hN : args.length ≤ fn.ntmps)
    (h : QW P fn.ntmps nx c ⟨initP args, H, nx, []⟩ (EndsX P fn.results.toList post)) : Spec P f args H nx post := by
  refine fun m ρ w vs V hn hρ hr => ?_
  refine calls_of_wp hf hb (wp_mono (h.2 m ρ _ w (initP_inv V hn hρ hr hN)) ?_)
  rintro e a w' ⟨px, s, m', ρ', ⟨hdf, hpost⟩, hrx, hI, hA0⟩
  have hA := hA0.toAdv hρ
  have hd := hI.defers
  rw [hdf] at hd
  have hnil : ∀ {H' : HM}, (∀ i, H' i = none ∨ H' i = s.H i) → ∀ i, s.nx ≤ i → H' i = none := by
    intro H' hs i hi
    rcases hs i with h' | h'
    · exact h'
    · rw [h']; exact hI.hnil i hi
  have ret : (resP P fn.results.toList s).2 ∧ (∃ H', (∀ i, H' i = none ∨ H' i = s.H i) ∧ post (.ret (resP P fn.results.toList s).1) H' s.nx) →
      a.defers = [] ∧ ∃ v, (results fn a.tmps).run P w' = .ok v w' ∧ ∃ out H' nx' m' ρ', post out H' nx' ∧ ValidOn (fun _ => True) m' ρ' w' H' ∧ (∀ i, nx' ≤ i → H' i = none) ∧ (∀ i, nx' ≤ i → ρ' i = none) ∧ Adv nx m ρ w H nx' m' ρ' w' H' ∧ RE m' ρ' out (.returned v) := by
    rintro ⟨hres, H', hs, hp⟩
    obtain ⟨v, hv, hrep⟩ := run_results (P := P) hI hres
    exact ⟨hd, v, hv, _, H', s.nx, m', ρ', hp, hI.valid.sub hs, hnil hs, hI.rnil, hA.sub hs, v, rfl, hrep⟩
  cases px with
  | normal => simp only [RX] at hrx; subst hrx; exact ret hpost
  | ret => simp only [RX] at hrx; subst hrx; exact ret hpost
  | exit i => exact hpost.elim
  | panic p =>
    obtain ⟨v, rfl, hv⟩ := hrx
    obtain ⟨H', hs, hp⟩ := hpost
    exact ⟨hd, _, H', s.nx, m', ρ', hp, hI.valid.sub hs, hnil hs, hI.rnil, hA.sub hs, v, rfl, hv⟩
end Go.Proofs.Ytonlehebfeilmaa.K
