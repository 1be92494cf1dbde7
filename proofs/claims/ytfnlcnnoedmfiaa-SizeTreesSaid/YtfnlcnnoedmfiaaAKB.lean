import Derived.Test.YtfnlcnnoedmfiaaAKA
/- The reckoner over lists of operations, and its soundness. -/
namespace Go.Proofs.Ytfnlcnnoedmfiaa.K
open Go Go.RowKit
variable {P : Program}
def putH (H : HM) (k : Nat) (v : Option HO) : HM := fun i => if i = k then v else H i
def CallK (P : Program) (f : Nat) (ds : List D) (k : PV → Prop) : Prop := ∃ res, Fun P f ds res ∧ k (.d res)
def EqK (P : Program) (t : TypeId) (x y : D) (k : Bool → Prop) : Prop := ∃ b, EqRun P t x y b ∧ k b
def Side (p : Prop) : Prop := p
def isEq : BinOp → Bool
  | .eql => true
  | .neq => true
  | _ => false
def aggy : PV → Bool
  | .d (.agg _) => true
  | .agg _ => true
  | _ => false
def appendF (P : Program) (s : St) (x y : PV) (t u : TypeId) (k : PV → HM → Nat → List Nat → List Nat → Prop) : Prop :=
  match rowA P t, P.underlying u, y.more with
  | some (sz, by'), some d, some l2 =>
    match x with
    | .own ix l => (notInt d = true ∧ s.H ix = some (.spare sz l.length) ∧ (∀ z ∈ l, z.cells.length = sz) ∧ (∀ z ∈ l2, z.cells.length = sz)) ∧ Side ((l.length + l2.length) * by' ≤ 140737488355328 ∧ l.length + l2.length ≤ maxLen) ∧
        k (.own s.nx (l ++ l2)) (putH (putH s.H ix none) s.nx (some (.spare sz (l.length + l2.length)))) (s.nx + 1) [ix] [ix]
    | .full l => (notInt d = true ∧ (∀ z ∈ l, z.cells.length = sz) ∧ (∀ z ∈ l2, z.cells.length = sz)) ∧ Side ((l.length + l2.length) * by' ≤ 140737488355328 ∧ l.length + l2.length ≤ maxLen ∧ (l2 = [] → l = [])) ∧
        k (.own s.nx (l ++ l2)) (putH s.H s.nx (some (.spare sz (l.length + l2.length)))) (s.nx + 1) [] []
    | _ => False
  | _, _, _ => False
def frozenDst (frz : List Nat) : Option Nat → Bool
  | some d => frz.contains d
  | none => false
def stepF (P : Program) (frz : List Nat) (o : Oper) (s : St) (k : PV → HM → Nat → List Nat → List Nat → Prop) : Prop :=
  match o.op with
  | .load t x => match evP s.S x with
    | .vptr ix off => match s.H ix with
      | some (.var l) => (loadV (tyA P t) l off).2 ∧ k (loadV (tyA P t) l off).1 s.H s.nx [ix] []
      | _ => False
    | .d (.cptr l) => (loadD (tyA P t) l).2 ∧ k (loadD (tyA P t) l).1 s.H s.nx [] []
    | _ => False
  | .store t x y => match evP s.S x, tyA P t with
    | .vptr ix off, some (_, n) => match s.H ix with
      | some (.var l) => ((evP s.S y).solid = true ∧ (evP s.S y).cellsP.length = n ∧ off + n ≤ l.length) ∧ k .junk (putH s.H ix (some (.var (spl l off (evP s.S y).cellsP)))) s.nx [ix] [ix]
      | _ => False
    | _, _ => False
  | .alloc t => match zeroA P t with
    | some z => z.all Value.oneCell' = true ∧ k (.vptr s.nx 0) (putH s.H s.nx (some (.var (z.map cellV)))) (s.nx + 1) [] []
    | none => False
  | .box _ x =>
    if frozenDst frz o.dst = true then
      match PV.toDs (evP s.S x).cellsP with
      | some ds => (evP s.S x).solid = true ∧ k (.d (.cptr ds)) s.H s.nx [] []
      | none => False
    else (evP s.S x).solid = true ∧ k (.vptr s.nx 0) (putH s.H s.nx (some (.var (evP s.S x).cellsP))) (s.nx + 1) [] []
  | .binOp op t x y _ =>
    if isEq op && aggy (evP s.S x) then
      match (evP s.S x).toD, (evP s.S y).toD with
      | some dx, some dy => EqK P t dx dy fun b => k (.d (.val (.bool (eqOut op b)))) s.H s.nx [] []
      | _, _ => False
    else (binX P op t (evP s.S x) (evP s.S y)).2 ∧ k (binX P op t (evP s.S x) (evP s.S y)).1 s.H s.nx [] []
  | .call c => match c.callee with
    | .builtin .append => match c.args.toList, c.argTypes.toList with
      | [x, y], [t, u] => appendF P s (evP s.S x) (evP s.S y) t u k
      | _, _ => False
    | .builtin b => (builtinF P s.S b c.args.toList c.argTypes.toList).2 ∧ k (builtinF P s.S b c.args.toList c.argTypes.toList).1 s.H s.nx [] []
    | .value (.func f) => match PV.toDs (c.args.toList.map (evP s.S)) with
      | some ds => entersB P f = true ∧ CallK P f ds fun p => k p s.H s.nx [] []
      | none => False
    | .value t => match evP s.S t, PV.toDs (c.args.toList.map (evP s.S)) with
      | .d (.clo f caps), some ds => entersB P f = true ∧ CallK P f (ds ++ caps) fun p => k p s.H s.nx [] []
      | _, _ => False
    | _ => False
  | op => (pureF P s.S op).2 ∧ k (pureF P s.S op).1 s.H s.nx [] []
theorem pure_step {o : Oper} {s : St} {v : PV} (hn : ∀ i, s.nx ≤ i → s.H i = none) (h : PureOp P o s.S v) : OpSem P o s v s.H s.nx [] [] := h.sem [] (by simp) hn
theorem append_sound {o : Oper} {s : St} {x y : Operand} {t u : TypeId} {k : PV → HM → Nat → List Nat → List Nat → Prop} (ho : o.op = .call { callee := .builtin .append, args := #[x, y], argTypes := #[t, u] }) (hn : ∀ i, s.nx ≤ i → s.H i = none)
    (h : appendF P s (evP s.S x) (evP s.S y) t u k) : ∃ v H' nx' T W, OpSem P o s v H' nx' T W ∧ k v H' nx' T W := by
  unfold appendF at h
  split at h
  · rename_i sz by' d l2 h1 h2 h3
    split at h
    · rename_i ix l hx
      obtain ⟨⟨c1, c2, c3, c4⟩, ⟨c5, c6⟩, hk⟩ := h
      exact ⟨_, _, _, _, _, append_own_sem ho h1 h2 c1 hx c2 h3 hn c3 c4 c5 c6, hk⟩
    · rename_i l hx
      obtain ⟨⟨c1, c3, c4⟩, ⟨c5, c6, c7⟩, hk⟩ := h
      exact ⟨_, _, _, _, _, append_full_sem ho h1 h2 c1 hx h3 hn c3 c4 c5 c6 c7, hk⟩
    · exact h.elim
  · exact h.elim
theorem stepF_sound {frz : List Nat} {o : Oper} {s : St} {k : PV → HM → Nat → List Nat → List Nat → Prop} (hn : ∀ i, s.nx ≤ i → s.H i = none) (h : stepF P frz o s k) : ∃ v H' nx' T W, OpSem P o s v H' nx' T W ∧ k v H' nx' T W := by
  have viaPure : (pureF P s.S o.op).2 → k (pureF P s.S o.op).1 s.H s.nx [] [] → ∃ v H' nx' T W, OpSem P o s v H' nx' T W ∧ k v H' nx' T W :=
    fun h1 h2 => ⟨_, _, _, _, _, pure_step hn (pureF_sound h1).op, h2⟩
  unfold stepF at h
  split at h
  · rename_i t x ho
    split at h
    · rename_i ix off hp
      split at h
      · rename_i l hH
        exact ⟨_, _, _, _, _, loadV_sem ho hp hH hn h.1, h.2⟩
      · exact h.elim
    · rename_i l hp
      exact ⟨_, _, _, _, _, pure_step hn (load_sound ho hp h.1).op, h.2⟩
    · exact h.elim
  · rename_i t x y ho
    split at h
    · rename_i ix off ag n hp ht
      split at h
      · rename_i l hH
        exact ⟨_, _, _, _, _, storeV_sem ho hp hH hn ht h.1.1 h.1.2.1 h.1.2.2, h.2⟩
      · exact h.elim
    · exact h.elim
  · rename_i t ho
    split at h
    · rename_i z hz
      exact ⟨_, _, _, _, _, allocV_sem ho hn hz h.1, h.2⟩
    · exact h.elim
  · rename_i t x ho
    split at h
    · split at h
      · rename_i ds hd
        exact ⟨_, _, _, _, _, pure_step hn (boxF_sound ho h.1 hd).op, h.2⟩
      · exact h.elim
    · exact ⟨_, _, _, _, _, boxV_sem ho hn h.1, h.2⟩
  · rename_i op t x y u ho
    split at h
    · rename_i he
      simp only [Bool.and_eq_true] at he
      split at h
      · rename_i dx dy hx hy
        obtain ⟨b, hb, hk⟩ := h
        have hop : op = .eql ∨ op = .neq := by cases op <;> simp_all [isEq]
        exact ⟨_, _, _, _, _, pure_step hn (eqAgg_run ho hop hx hy hb).op, hk⟩
      · exact h.elim
    · exact ⟨_, _, _, _, _, pure_step hn (binX_sound ho h.1).op, h.2⟩
  · rename_i c ho
    split at h
    · rename_i hc
      split at h
      · rename_i x y t u ha ht
        obtain ⟨callee, args, ts⟩ := c
        simp only at hc ha ht
        subst hc
        rw [arr_eq ha, arr_eq ht] at ho
        exact append_sound ho hn h
      · exact h.elim
    · rename_i b hb hc
      exact ⟨_, _, _, _, _, pure_step hn (builtin_sound ho hc h.1).op, h.2⟩
    · rename_i f hc
      split at h
      · rename_i ds hd
        obtain ⟨he, res, hF, hk⟩ := h
        exact ⟨_, _, _, _, _, pure_step hn (call_fun ho hc he hd hF), hk⟩
      · exact h.elim
    · rename_i t hne hc
      split at h
      · rename_i f caps ds ht hd
        obtain ⟨he, res, hF, hk⟩ := h
        exact ⟨_, _, _, _, _, pure_step hn (call_clo ho hc ht he hd hF), hk⟩
      · exact h.elim
    · exact h.elim
  · exact viaPure h.1 h.2
def unS (S : Nat → PV) : Nat → PV := fun t => (asCond (S t)).2
theorem asCond_ofVal (v : Value) : asCond (ofVal v) = (true, ofVal v) := by
  unfold ofVal
  split
  · rfl
  · split <;> rfl
  · rfl
theorem evP_unS (S : Nat → PV) (x : Operand) : evP (unS S) x = (asCond (evP S x)).2 := by
  cases x with
  | tmp t => rfl
  | const v => simp only [evP, asCond_ofVal]
  | global g => rfl
  | func f => rfl
def condsOK (g : Bool) (S : Nat → PV) : List Operand → Prop
  | [] => True
  | x :: r => (g = true → (asCond (evP S x)).1 = true) ∧ condsOK g S r
end Go.Proofs.Ytfnlcnnoedmfiaa.K
/- Regions by the reckoner. -/
namespace Go.Proofs.Ytfnlcnnoedmfiaa.K
open Go Go.RowKit
variable {P : Program} {N : Nat}
end Go.Proofs.Ytfnlcnnoedmfiaa.K
