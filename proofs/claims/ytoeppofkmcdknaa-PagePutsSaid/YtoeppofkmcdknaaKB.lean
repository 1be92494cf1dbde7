import Derived.Test.YtoeppofkmcdknaaKA

/- The reckoner over lists of operations, and its soundness. -/
namespace Go.Proofs.Ytoeppofkmcdknaa.K
open Go Go.RowKit

variable {P : Program}

def putH (H : HM) (k : Nat) (v : Option HO) : HM := fun i => if i = k then v else H i

/-- A call by a function's law; what comes behind it. -/
def CallK (P : Program) (f : Nat) (ds : List D) (k : PV → Prop) : Prop := ∃ res, Fun P f ds res ∧ k (.d res)
def CallG (P : Program) (g : Bool) (f : Nat) (ds : List D) (k : PV → Prop) : Prop := ∃ res, (g = true → Fun P f ds res) ∧ k (.d res)
def EqK (P : Program) (t : TypeId) (x y : D) (k : Bool → Prop) : Prop := ∃ b, EqRun P t x y b ∧ k b
def EqG (P : Program) (g : Bool) (t : TypeId) (x y : D) (k : Bool → Prop) : Prop := ∃ b, (g = true → EqRun P t x y b) ∧ k b
/-- A call by a law that touches owned blocks, or may panic. -/
def SpecK (P : Program) (f : Nat) (args : List PV) (H : HM) (nx : Nat) (k : Out → HM → Nat → Prop) : Prop := ∃ post, Spec P f args H nx post ∧ ∀ out H' nx', post out H' nx' → k out H' nx'

/-- A side condition. -/
def Side (p : Prop) : Prop := p

theorem CallK.mk {f : Nat} {ds : List D} {k : PV → Prop} {res : D} (h : Fun P f ds res) (hk : k (.d res)) : CallK P f ds k := ⟨res, h, hk⟩
theorem CallG.mk {g : Bool} {f : Nat} {ds : List D} {k : PV → Prop} {res : D} (h : g = true → Fun P f ds res) (hk : k (.d res)) : CallG P g f ds k := ⟨res, h, hk⟩
theorem EqK.mk {t : TypeId} {x y : D} {k : Bool → Prop} {b : Bool} (h : EqRun P t x y b) (hk : k b) : EqK P t x y k := ⟨b, h, hk⟩
theorem EqG.mk {g : Bool} {t : TypeId} {x y : D} {k : Bool → Prop} {b : Bool} (h : g = true → EqRun P t x y b) (hk : k b) : EqG P g t x y k := ⟨b, h, hk⟩
theorem SpecK.mk {f : Nat} {args : List PV} {H : HM} {nx : Nat} {k post : Out → HM → Nat → Prop} (h : Spec P f args H nx post) (hk : ∀ out H' nx', post out H' nx' → k out H' nx') : SpecK P f args H nx k := ⟨post, h, hk⟩

theorem CallK_congr {f : Nat} {ds ds' : List D} {k : PV → Prop} (h : ds = ds') : CallK P f ds k = CallK P f ds' k := by rw [h]
theorem CallG_congr {g g' : Bool} {f : Nat} {ds ds' : List D} {k : PV → Prop} (hg : g = g') (h : ds = ds') : CallG P g f ds k = CallG P g' f ds' k := by rw [hg, h]
theorem EqK_congr {t : TypeId} {x x' y y' : D} {k : Bool → Prop} (hx : x = x') (hy : y = y') : EqK P t x y k = EqK P t x' y' k := by rw [hx, hy]
theorem EqG_congr {g g' : Bool} {t : TypeId} {x x' y y' : D} {k : Bool → Prop} (hg : g = g') (hx : x = x') (hy : y = y') : EqG P g t x y k = EqG P g' t x' y' k := by rw [hg, hx, hy]
theorem SpecK_congr {f : Nat} {args args' : List PV} {H H' : HM} {nx nx' : Nat} {k : Out → HM → Nat → Prop} (h : args = args') (hH : H = H') (hn : nx = nx') : SpecK P f args H nx k = SpecK P f args' H' nx' k := by rw [h, hH, hn]

def isEq : BinOp → Bool
  | .eql => true
  | .neq => true
  | _ => false

/-- Is it held against another as a struct or an array? -/
def aggy : PV → Bool
  | .d (.agg _) => true
  | .agg _ => true
  | _ => false

def appendF (P : Program) (s : St) (x y : PV) (t u : TypeId) (k : PV → HM → Nat → List Nat → List Nat → Prop) : Prop :=
  match rowA P t, P.underlying u, y.more with
  | some (sz, by'), some d, some l2 =>
    match x with
    | .own ix l => (notInt d = true ∧ s.H ix = some (.spare sz l.length) ∧ (∀ z ∈ l, z.cells.length = sz) ∧ (∀ z ∈ l2, z.cells.length = sz)) ∧ Side ((l.length + l2.length) * by' ≤ 140737488355328 ∧ l.length + l2.length ≤ maxLen) ∧
        k (.own s.nx (l ++ l2)) (putH (putH s.H ix none) s.nx (some (.spare sz (l.length + l2.length)))) (s.nx + 1) [ix] [ix]
    | .full l => (notInt d = true ∧ (∀ z ∈ l, z.cells.length = sz) ∧ (∀ z ∈ l2, z.cells.length = sz)) ∧ Side ((l.length + l2.length) * by' ≤ 140737488355328 ∧ l.length + l2.length ≤ maxLen ∧ (l2 = [] → l = [])) ∧
        k (.own s.nx (l ++ l2)) (putH s.H s.nx (some (.spare sz (l.length + l2.length)))) (s.nx + 1) [] []
    | _ => False
  | _, _, _ => False

def frozenDst (frz : List Nat) : Option Nat → Bool
  | some d => frz.contains d
  | none => false

def stepF (P : Program) (frz : List Nat) (o : Oper) (s : St) (k : PV → HM → Nat → List Nat → List Nat → Prop) : Prop :=
  match o.op with
  | .load t x => match evP s.S x with
    | .vptr ix off => match s.H ix with
      | some (.var l) => (loadV (tyA P t) l off).2 ∧ k (loadV (tyA P t) l off).1 s.H s.nx [ix] []
      | _ => False
    | .d (.cptr l) => (loadD (tyA P t) l).2 ∧ k (loadD (tyA P t) l).1 s.H s.nx [] []
    | _ => False
  | .store t x y => match evP s.S x, tyA P t with
    | .vptr ix off, some (_, n) => match s.H ix with
      | some (.var l) => ((evP s.S y).solid = true ∧ (evP s.S y).cellsP.length = n ∧ off + n ≤ l.length) ∧ k .junk (putH s.H ix (some (.var (spl l off (evP s.S y).cellsP)))) s.nx [ix] [ix]
      | _ => False
    | _, _ => False
  | .alloc t => match zeroA P t with
    | some z => z.all Value.oneCell' = true ∧ k (.vptr s.nx 0) (putH s.H s.nx (some (.var (z.map cellV)))) (s.nx + 1) [] []
    | none => False
  | .box _ x =>
    if frozenDst frz o.dst = true then
      match PV.toDs (evP s.S x).cellsP with
      | some ds => (evP s.S x).solid = true ∧ k (.d (.cptr ds)) s.H s.nx [] []
      | none => False
    else (evP s.S x).solid = true ∧ k (.vptr s.nx 0) (putH s.H s.nx (some (.var (evP s.S x).cellsP))) (s.nx + 1) [] []
  | .binOp op t x y _ =>
    if isEq op && aggy (evP s.S x) then
      match (evP s.S x).toD, (evP s.S y).toD with
      | some dx, some dy => EqK P t dx dy fun b => k (.d (.val (.bool (eqOut op b)))) s.H s.nx [] []
      | _, _ => False
    else (binX P op t (evP s.S x) (evP s.S y)).2 ∧ k (binX P op t (evP s.S x) (evP s.S y)).1 s.H s.nx [] []
  | .call c => match c.callee with
    | .builtin .append => match c.args.toList, c.argTypes.toList with
      | [x, y], [t, u] => appendF P s (evP s.S x) (evP s.S y) t u k
      | _, _ => False
    | .builtin b => (builtinF P s.S b c.args.toList c.argTypes.toList).2 ∧ k (builtinF P s.S b c.args.toList c.argTypes.toList).1 s.H s.nx [] []
    | .value (.func f) => match PV.toDs (c.args.toList.map (evP s.S)) with
      | some ds => entersB P f = true ∧ CallK P f ds fun p => k p s.H s.nx [] []
      | none => False
    | .value t => match evP s.S t, PV.toDs (c.args.toList.map (evP s.S)) with
      | .d (.clo f caps), some ds => entersB P f = true ∧ CallK P f (ds ++ caps) fun p => k p s.H s.nx [] []
      | _, _ => False
    | _ => False
  | op => (pureF P s.S op).2 ∧ k (pureF P s.S op).1 s.H s.nx [] []

theorem putH_eq (H : HM) (k : Nat) (v : Option HO) : putH H k v = fun i => if i = k then v else H i := rfl

theorem pure_step {o : Oper} {s : St} {v : PV} (hn : ∀ i, s.nx ≤ i → s.H i = none) (h : PureOp P o s.S v) : OpSem P o s v s.H s.nx [] [] := h.sem [] (by simp) hn

theorem append_sound {o : Oper} {s : St} {x y : Operand} {t u : TypeId} {k : PV → HM → Nat → List Nat → List Nat → Prop} (ho : o.op = .call { callee := .builtin .append, args := #[x, y], argTypes := #[t, u] }) (hn : ∀ i, s.nx ≤ i → s.H i = none)
    (h : appendF P s (evP s.S x) (evP s.S y) t u k) : ∃ v H' nx' T W, OpSem P o s v H' nx' T W ∧ k v H' nx' T W := by
  unfold appendF at h
  split at h
  · rename_i sz by' d l2 h1 h2 h3
    split at h
    · rename_i ix l hx
      obtain ⟨⟨c1, c2, c3, c4⟩, ⟨c5, c6⟩, hk⟩ := h
      exact ⟨_, _, _, _, _, append_own_sem ho h1 h2 c1 hx c2 h3 hn c3 c4 c5 c6, hk⟩
    · rename_i l hx
      obtain ⟨⟨c1, c3, c4⟩, ⟨c5, c6, c7⟩, hk⟩ := h
      exact ⟨_, _, _, _, _, append_full_sem ho h1 h2 c1 hx h3 hn c3 c4 c5 c6 c7, hk⟩
    · exact h.elim
  · exact h.elim

theorem stepF_sound {frz : List Nat} {o : Oper} {s : St} {k : PV → HM → Nat → List Nat → List Nat → Prop} (hn : ∀ i, s.nx ≤ i → s.H i = none) (h : stepF P frz o s k) : ∃ v H' nx' T W, OpSem P o s v H' nx' T W ∧ k v H' nx' T W := by
  have viaPure : (pureF P s.S o.op).2 → k (pureF P s.S o.op).1 s.H s.nx [] [] → ∃ v H' nx' T W, OpSem P o s v H' nx' T W ∧ k v H' nx' T W :=
    fun h1 h2 => ⟨_, _, _, _, _, pure_step hn (pureF_sound h1).op, h2⟩
  unfold stepF at h
  split at h
  · rename_i t x ho
    split at h
    · rename_i ix off hp
      split at h
      · rename_i l hH
        exact ⟨_, _, _, _, _, loadV_sem ho hp hH hn h.1, h.2⟩
      · exact h.elim
    · rename_i l hp
      exact ⟨_, _, _, _, _, pure_step hn (load_sound ho hp h.1).op, h.2⟩
    · exact h.elim
  · rename_i t x y ho
    split at h
    · rename_i ix off ag n hp ht
      split at h
      · rename_i l hH
        exact ⟨_, _, _, _, _, storeV_sem ho hp hH hn ht h.1.1 h.1.2.1 h.1.2.2, h.2⟩
      · exact h.elim
    · exact h.elim
  · rename_i t ho
    split at h
    · rename_i z hz
      exact ⟨_, _, _, _, _, allocV_sem ho hn hz h.1, h.2⟩
    · exact h.elim
  · rename_i t x ho
    split at h
    · split at h
      · rename_i ds hd
        exact ⟨_, _, _, _, _, pure_step hn (boxF_sound ho h.1 hd).op, h.2⟩
      · exact h.elim
    · exact ⟨_, _, _, _, _, boxV_sem ho hn h.1, h.2⟩
  · rename_i op t x y u ho
    split at h
    · rename_i he
      simp only [Bool.and_eq_true] at he
      split at h
      · rename_i dx dy hx hy
        obtain ⟨b, hb, hk⟩ := h
        have hop : op = .eql ∨ op = .neq := by cases op <;> simp_all [isEq]
        exact ⟨_, _, _, _, _, pure_step hn (eqAgg_run ho hop hx hy hb).op, hk⟩
      · exact h.elim
    · exact ⟨_, _, _, _, _, pure_step hn (binX_sound ho h.1).op, h.2⟩
  · rename_i c ho
    split at h
    · rename_i hc
      split at h
      · rename_i x y t u ha ht
        obtain ⟨callee, args, ts⟩ := c
        simp only at hc ha ht
        subst hc
        rw [arr_eq ha, arr_eq ht] at ho
        exact append_sound ho hn h
      · exact h.elim
    · rename_i b hb hc
      exact ⟨_, _, _, _, _, pure_step hn (builtin_sound ho hc h.1).op, h.2⟩
    · rename_i f hc
      split at h
      · rename_i ds hd
        obtain ⟨he, res, hF, hk⟩ := h
        exact ⟨_, _, _, _, _, pure_step hn (call_fun ho hc he hd hF), hk⟩
      · exact h.elim
    · rename_i t hne hc
      split at h
      · rename_i f caps ds ht hd
        obtain ⟨he, res, hF, hk⟩ := h
        exact ⟨_, _, _, _, _, pure_step hn (call_clo ho hc ht he hd hF), hk⟩
      · exact h.elim
    · exact h.elim
  · exact viaPure h.1 h.2

/-! ### Under a test -/

def unS (S : Nat → PV) : Nat → PV := fun t => (asCond (S t)).2

theorem asCond_ofVal (v : Value) : asCond (ofVal v) = (true, ofVal v) := by
  unfold ofVal
  split
  · rfl
  · split <;> rfl
  · rfl

theorem evP_unS (S : Nat → PV) (x : Operand) : evP (unS S) x = (asCond (evP S x)).2 := by
  cases x with
  | tmp t => rfl
  | const v => simp only [evP, asCond_ofVal]
  | global g => rfl
  | func f => rfl

def condsOK (g : Bool) (S : Nat → PV) : List Operand → Prop
  | [] => True
  | x :: r => (g = true → (asCond (evP S x)).1 = true) ∧ condsOK g S r

theorem condsOK_mem {g : Bool} {S : Nat → PV} : ∀ {l : List Operand}, condsOK g S l → ∀ x ∈ l, g = true → (asCond (evP S x)).1 = true
  | [], _, x, hx => by cases hx
  | y :: r, h, x, hx => by
    rcases List.mem_cons.1 hx with rfl | hx
    · exact h.1
    · exact condsOK_mem h.2 x hx

/-- An operation that waits for a test. -/
def guardF (P : Program) (g : Bool) (o : Oper) (s : St) (k : PV → List Nat → Prop) : Prop :=
  condsOK g s.S o.op.operands.toList ∧
  match o.op with
  | .load t x => match (asCond (evP s.S x)).2 with
    | .vptr ix off => match s.H ix with
      | some (.var l) => (g = true → (loadV (tyA P t) l off).2) ∧ k (loadV (tyA P t) l off).1 [ix]
      | _ => False
    | .d (.cptr l) => (g = true → (loadD (tyA P t) l).2) ∧ k (loadD (tyA P t) l).1 []
    | _ => False
  | .binOp op t x y _ =>
    if isEq op && aggy (asCond (evP s.S x)).2 then
      match (asCond (evP s.S x)).2.toD, (asCond (evP s.S y)).2.toD with
      | some dx, some dy => EqG P g t dx dy fun b => k (.d (.val (.bool (eqOut op b)))) []
      | _, _ => False
    else (g = true → (binX P op t (asCond (evP s.S x)).2 (asCond (evP s.S y)).2).2) ∧ k (binX P op t (asCond (evP s.S x)).2 (asCond (evP s.S y)).2).1 []
  | .call c => match c.callee with
    | .builtin b => (g = true → (builtinF P (unS s.S) b c.args.toList c.argTypes.toList).2) ∧ k (builtinF P (unS s.S) b c.args.toList c.argTypes.toList).1 []
    | .value (.func f) => match PV.toDs (c.args.toList.map (evP (unS s.S))) with
      | some ds => entersB P f = true ∧ CallG P g f ds fun p => k p []
      | none => False
    | .value t => match evP (unS s.S) t, PV.toDs (c.args.toList.map (evP (unS s.S))) with
      | .d (.clo f caps), some ds => entersB P f = true ∧ CallG P g f (ds ++ caps) fun p => k p []
      | _, _ => False
    | _ => False
  | op => (g = true → (pureF P (unS s.S) op).2) ∧ k (pureF P (unS s.S) op).1 []

theorem guardF_sound {ops : Array Oper} {g : Bool} {o : Oper} {s : St} {k : PV → List Nat → Prop} (hn : ∀ i, s.nx ≤ i → s.H i = none) (hg : guardP ops o s.S = some g) (h : guardF P g o s k) :
    ∃ v T, StepOp P ops o s (.cond g v) s.H ⟨T, [], s.nx, s.nx⟩ ∧ k v T := by
  obtain ⟨hc, h⟩ := h
  have under : g = true → ∀ x ∈ o.op.operands, ∀ m ρ u, Rep m ρ (evP s.S x) u → Rep m ρ (evP (unS s.S) x) u := by
    intro hgt x hx m ρ u hr
    rw [evP_unS]
    exact asCond_rep hr (condsOK_mem hc x (by simpa using hx) hgt)
  have mk : ∀ {v : PV} {T : List Nat}, (∀ i ∈ T, i < s.nx) → (g = true → OpSem P o ⟨unS s.S, s.H, s.nx, s.df⟩ v s.H s.nx T []) → k v T → ∃ v T, StepOp P ops o s (.cond g v) s.H ⟨T, [], s.nx, s.nx⟩ ∧ k v T :=
    fun hT hs hk => ⟨_, _, .gd hg hT (fun hgt => ⟨unS s.S, under hgt, hs hgt⟩), hk⟩
  have pure' : ∀ {v : PV}, (g = true → PureOp P o (unS s.S) v) → k v [] → ∃ v T, StepOp P ops o s (.cond g v) s.H ⟨T, [], s.nx, s.nx⟩ ∧ k v T :=
    fun hp hk => mk (by simp) (fun hgt => PureOp.sem (s := ⟨unS s.S, s.H, s.nx, s.df⟩) (hp hgt) [] (by simp) hn) hk
  split at h
  · rename_i t x ho
    rw [← evP_unS] at h
    split at h
    · rename_i ix off hp
      split at h
      · rename_i l hH
        have hid : ix < s.nx := by
          rcases Nat.lt_or_ge ix s.nx with h' | h'
          · exact h'
          · rw [hn ix h'] at hH; cases hH
        exact mk (T := [ix]) (by simpa using hid) (fun hgt => loadV_sem (s := ⟨unS s.S, s.H, s.nx, s.df⟩) ho hp hH hn (h.1 hgt)) h.2
      · exact h.elim
    · rename_i l hp
      exact pure' (fun hgt => (load_sound ho hp (h.1 hgt)).op) h.2
    · exact h.elim
  · rename_i op t x y u ho
    rw [← evP_unS, ← evP_unS] at h
    split at h
    · rename_i he
      simp only [Bool.and_eq_true] at he
      split at h
      · rename_i dx dy hx hy
        obtain ⟨b, hb, hk⟩ := h
        have hop : op = .eql ∨ op = .neq := by cases op <;> simp_all [isEq]
        exact pure' (fun hgt => (eqAgg_run ho hop hx hy (hb hgt)).op) hk
      · exact h.elim
    · exact pure' (fun hgt => (binX_sound ho (h.1 hgt)).op) h.2
  · rename_i c ho
    split at h
    · rename_i b hcb
      exact pure' (fun hgt => (builtin_sound ho hcb (h.1 hgt)).op) h.2
    · rename_i f hcf
      split at h
      · rename_i ds hd
        obtain ⟨he, res, hF, hk⟩ := h
        exact pure' (fun hgt => call_fun ho hcf he hd (hF hgt)) hk
      · exact h.elim
    · rename_i t hne hcf
      split at h
      · rename_i f caps ds ht hd
        obtain ⟨he, res, hF, hk⟩ := h
        exact pure' (fun hgt => call_clo ho hcf ht he hd (hF hgt)) hk
      · exact h.elim
    · exact h.elim
  · exact pure' (fun hgt => (pureF_sound (h.1 hgt)).op) h.2

/-! ### Lists of operations -/

def EvF (P : Program) (ops : Array Oper) (frz : List Nat) : List Oper → St → List Rec → (St → List Rec → Prop) → Prop
  | [], s, acc, K => K s acc.reverse
  | o :: r, s, acc, K =>
    match o.guard with
    | none => stepF P frz o s fun v H' nx' T W => EvF P ops frz r ⟨putS s.S o.dst v, H', nx', s.df⟩ (⟨T, W, s.nx, nx'⟩ :: acc) K
    | some _ => match guardP ops o s.S with
      | some g => guardF P g o s fun v T => EvF P ops frz r ⟨putS s.S o.dst (.cond g v), s.H, s.nx, s.df⟩ (⟨T, [], s.nx, s.nx⟩ :: acc) K
      | none => False

theorem EvF_sound {ops : Array Oper} {frz : List Nat} {K : St → List Rec → Prop} : ∀ (r : List Oper) (s : St) (acc : List Rec), (∀ i, s.nx ≤ i → s.H i = none) → EvF P ops frz r s acc K → ∃ s' L, Runs P ops r s s' L ∧ K s' (acc.reverse ++ L) := by
  intro r
  induction r with
  | nil => intro s acc _ h; exact ⟨s, [], .nil s, by simpa [EvF] using h⟩
  | cons o r ih =>
    intro s acc hn h
    simp only [EvF] at h
    split at h
    · rename_i hg
      obtain ⟨v, H', nx', T, W, hs, hk⟩ := stepF_sound hn h
      have hn' : ∀ i, nx' ≤ i → H' i = none := hs.nil
      obtain ⟨s', L, hr, hK⟩ := ih _ _ hn' hk
      exact ⟨s', _, .cons (.run hg hs) hr, by simpa using hK⟩
    · rename_i gw hg
      split at h
      · rename_i g hgp
        obtain ⟨v, T, hs, hk⟩ := guardF_sound (ops := ops) hn hgp h
        obtain ⟨s', L, hr, hK⟩ := ih ⟨putS s.S o.dst (.cond g v), s.H, s.nx, s.df⟩ _ hn hk
        exact ⟨s', _, .cons hs hr, by simpa using hK⟩
      · exact h.elim

/-- A call by the function's law over closed data, or by its law over owned blocks. -/
def CallX (P : Program) (f : Nat) (args : List PV) (H : HM) (nx : Nat) (k : Out → HM → Nat → Prop) : Prop :=
  (∃ ds res, PV.toDs args = some ds ∧ Fun P f ds res ∧ k (.ret (.d res)) H nx) ∨ ∃ post, Spec P f args H nx post ∧ ∀ out H' nx', post out H' nx' → k out H' nx'

theorem CallX.fn {f : Nat} {args : List PV} {H : HM} {nx : Nat} {k : Out → HM → Nat → Prop} {ds : List D} {res : D} (hd : PV.toDs args = some ds) (h : Fun P f ds res) (hk : k (.ret (.d res)) H nx) : CallX P f args H nx k := .inl ⟨ds, res, hd, h, hk⟩
theorem CallX.sp {f : Nat} {args : List PV} {H : HM} {nx : Nat} {k post : Out → HM → Nat → Prop} (h : Spec P f args H nx post) (hk : ∀ out H' nx', post out H' nx' → k out H' nx') : CallX P f args H nx k := .inr ⟨post, h, hk⟩
theorem CallX_congr {f : Nat} {args args' : List PV} {H H' : HM} {nx nx' : Nat} {k : Out → HM → Nat → Prop} (h : args = args') (hH : H = H') (hn : nx = nx') : CallX P f args H nx k = CallX P f args' H' nx' k := by rw [h, hH, hn]

theorem repP_d {m : Mem} {ρ : Ren} : ∀ {l : List D} {vs : List Value}, RepL m l vs → RepP m ρ (l.map .d) vs
  | [], vs, h => by simpa [RepP, RepL] using h
  | x :: r, vs, h => by
    simp only [RepL, List.map_cons, RepP] at h ⊢
    obtain ⟨v, vr, e1, e2, e3⟩ := h
    exact ⟨v, vr, e1, by simpa [Rep] using e2, repP_d e3⟩

theorem pure_done {m m' : Mem} {ρ : Ren} {w w' : World} {H : HM} (V : ValidOn (fun _ => True) m ρ w H) (hm' : MemOK m' w') (he : Ext (fun _ => False) m w m' w') : ValidOn (fun _ => True) m' ρ w' H ∧ ∀ nx, Adv nx m ρ w H nx m' ρ w' H := by
  refine ⟨⟨hm', fun i o hi hH => ?_, V.apart⟩, fun nx => ⟨he.mono fun _ f => f.elim, Ren.le_refl _, fun b hb => .inl hb, Nat.le_refl _, fun _ _ => rfl⟩⟩
  have hE := V.entry i o trivial hH
  refine hE.move he.mem (Ren.le_refl _) rfl (fun b c hr => he.block b (hE.ren hr) (fun f => f.elim)) (fun b c hr o' v' e => ?_)
  rcases he.new b o' v' e with h | h | h
  · exact h
  · exact h.elim
  · have := hE.ren hr; omega

theorem xcall_dclo {o : Oper} {s : St} {c : Call} {t : Operand} {f : Nat} {caps : List D} {post : Out → HM → Nat → Prop} (ho : o.op = .call c) (hc : c.callee = .value t) (ht : evP s.S t = .d (.clo f caps)) (he : entersB P f = true)
    (hS : Spec P f (c.args.toList.map (evP s.S) ++ caps.map .d) s.H s.nx post) : XCall P o s post := by
  intro m ρ a w K Q V hn hρ hx h1 h2
  have hx' : ∀ x ∈ c.args.toList, Rep m ρ (evP s.S x) (a.eval x) := fun x hx' => hx x (by simp only [ho, Op.operands, Call.operands]; simp only [Array.mem_append]; exact .inr (by simpa using hx'))
  have h3 := hx t (by simp [ho, Op.operands, Call.operands, hc])
  rw [ht] at h3
  simp only [Rep, RepD] at h3
  obtain ⟨cs, hcv, hcs⟩ := h3
  unfold Oper.wp
  rw [run_call_clo ho hc hcv he, Oper.upon_enter]
  have := hS m ρ w _ V hn hρ (repP_append (repP_map_eval c.args.toList hx') (repP_d hcs))
  have e : (⟨c.args.toList.map a.eval ++ cs⟩ : Array Value) = c.args.map a.eval ++ ⟨cs⟩ := by apply Array.ext'; simp
  rw [e] at this
  refine this.mono ?_
  rintro e w' ⟨out, H', nx', m', ρ', hp, V', hn', hr', hA, hre⟩
  cases out with
  | ret p => obtain ⟨v, rfl, hv⟩ := hre; exact h1 p H' nx' m' ρ' w' v hp V' hn' hr' hA hv
  | pan p => obtain ⟨v, rfl, hv⟩ := hre; exact h2 p H' nx' m' ρ' w' v hp V' hn' hr' hA hv

theorem spec_of_fun {f : Nat} {args : List PV} {H : HM} {nx : Nat} {ds : List D} {res : D} (hd : PV.toDs args = some ds) (h : Fun P f ds res) : Spec P f args H nx fun out H' nx' => out = .ret (.d res) ∧ H' = H ∧ nx' = nx := by
  intro m ρ w vs V hn hρ hr
  refine (h m w vs V.mem (RepP.toDs _ _ _ hd hr)).mono ?_
  rintro e w' ⟨v, m', rfl, hv, hm', hE⟩
  have D := pure_done V hm' hE
  exact ⟨_, H, nx, m', ρ, ⟨rfl, rfl, rfl⟩, D.1, hn, hρ, D.2 nx, v, rfl, by simpa [Rep] using hv⟩

/-- In the text's order, calls that may panic among them, and defers. -/
def EvX (P : Program) (ops : Array Oper) (frz : List Nat) : List Oper → St → (PX → St → Prop) → Prop
  | [], s, Q => Q .normal s
  | o :: r, s, Q =>
    match o.guard with
    | none => match o.op with
      | .defer c => match c.callee with
        | .value (.func f) => EvX P ops frz r ⟨putS s.S o.dst .junk, s.H, s.nx, (f, c.args.toList.map (evP s.S)) :: s.df⟩ Q
        | _ => False
      | .call c => match c.callee with
        | .builtin _ => stepF P frz o s fun v H' nx' _ _ => EvX P ops frz r ⟨putS s.S o.dst v, H', nx', s.df⟩ Q
        | .value t => match evP s.S t with
          | .clo f caps => entersB P f = true ∧ CallX P f (c.args.toList.map (evP s.S) ++ caps) s.H s.nx fun out H' nx' => match out with
            | .ret p => EvX P ops frz r ⟨putS s.S o.dst p, H', nx', s.df⟩ Q
            | .pan p => Q (.panic p) ⟨s.S, H', nx', s.df⟩
          | .d (.clo f caps) => entersB P f = true ∧ CallX P f (c.args.toList.map (evP s.S) ++ caps.map .d) s.H s.nx fun out H' nx' => match out with
            | .ret p => EvX P ops frz r ⟨putS s.S o.dst p, H', nx', s.df⟩ Q
            | .pan p => Q (.panic p) ⟨s.S, H', nx', s.df⟩
          | _ => False
        | _ => False
      | _ => stepF P frz o s fun v H' nx' _ _ => EvX P ops frz r ⟨putS s.S o.dst v, H', nx', s.df⟩ Q
    | some _ => match guardP ops o s.S with
      | some g => guardF P g o s fun v _ => EvX P ops frz r ⟨putS s.S o.dst (.cond g v), s.H, s.nx, s.df⟩ Q
      | none => False

theorem EvX_sound {ops : Array Oper} {frz : List Nat} {Q : PX → St → Prop} : ∀ (r : List Oper) (s : St), (∀ i, s.nx ≤ i → s.H i = none) → EvX P ops frz r s Q → RunX P ops r s Q := by
  intro r
  induction r with
  | nil => intro s _ h; exact .nil (by simpa [EvX] using h)
  | cons o r ih =>
    intro s hn h
    have viaStep : o.guard = none → stepF P frz o s (fun v H' nx' _ _ => EvX P ops frz r ⟨putS s.S o.dst v, H', nx', s.df⟩ Q) → RunX P ops (o :: r) s Q := by
      intro hg h
      obtain ⟨v, H', nx', T, W, hs, hk⟩ := stepF_sound hn h
      exact .step (R := ⟨T, W, s.nx, nx'⟩) (.run hg hs) (ih ⟨putS s.S o.dst v, H', nx', s.df⟩ hs.nil hk)
    have viaCall : ∀ {f : Nat} {args : List PV}, o.guard = none → (∀ post, Spec P f args s.H s.nx post → XCall P o s post) → CallX P f args s.H s.nx (fun out H' nx' => match out with
        | .ret p => EvX P ops frz r ⟨putS s.S o.dst p, H', nx', s.df⟩ Q
        | .pan p => Q (.panic p) ⟨s.S, H', nx', s.df⟩) → RunX P ops (o :: r) s Q := by
      intro f args hg hx h
      rcases h with ⟨ds, res, hd, hF, hk⟩ | ⟨post, hS, hk⟩
      · refine .call hg (hx _ (spec_of_fun hd hF)) ?_ ?_
        · rintro p H' nx' ⟨e, rfl, rfl⟩ hn'
          cases e
          exact ih _ hn' hk
        · rintro p H' nx' ⟨e, _⟩
          cases e
      · refine .call hg (hx _ hS) ?_ ?_
        · intro p H' nx' hp hn'
          exact ih ⟨putS s.S o.dst p, H', nx', s.df⟩ hn' (hk _ _ _ hp)
        · intro p H' nx' hp
          exact hk _ _ _ hp
    simp only [EvX] at h
    split at h
    · rename_i hg
      split at h
      · rename_i c ho
        split at h
        · rename_i f hc
          exact .defer hg ho hc (ih ⟨putS s.S o.dst .junk, s.H, s.nx, (f, c.args.toList.map (evP s.S)) :: s.df⟩ hn h)
        · exact h.elim
      · rename_i c ho
        split at h
        · exact viaStep hg h
        · rename_i t hc
          split at h
          · rename_i f caps ht
            exact viaCall hg (fun post hS => xcall_clo ho hc ht h.1 hS) h.2
          · rename_i f caps ht
            exact viaCall hg (fun post hS => xcall_dclo ho hc ht h.1 hS) h.2
          · exact h.elim
        · exact h.elim
      · exact viaStep hg h
    · rename_i gw hg
      split at h
      · rename_i g hgp
        obtain ⟨v, T, hs, hk⟩ := guardF_sound (ops := ops) hn hgp h
        exact .step hs (ih ⟨putS s.S o.dst (.cond g v), s.H, s.nx, s.df⟩ hn hk)
      · exact h.elim
end Go.Proofs.Ytoeppofkmcdknaa.K

/- Regions by the reckoner. -/
namespace Go.Proofs.Ytoeppofkmcdknaa.K
open Go Go.RowKit

variable {P : Program} {N : Nat}

/-- A region in the text's order. -/
theorem PW.regX {id : Nat} {ops : Array Oper} {s : St} {Q : PX → St → Prop} (frz : List Nat) (hok : dstsIn ops N = true) (h : EvX P ops frz ops.toList s Q) : PW P N (.region id ops false) s Q := by
  intro m ρ a w hI
  exact PW.region hok (EvX_sound _ _ hI.hnil h) m ρ a w hI

/-- A region that draws its order; M is its table of masks. -/
theorem PW.drawK {id : Nat} {ops : Array Oper} {s : St} {Q : PX → St → Prop} (frz : List Nat) (hm : P.follows .mixedOrders = true) {M : List Nat} (hM : M = masks ops.toList []) (hok : regionOK ops N M = true)
    (h : EvF P ops frz ops.toList s [] fun s' L => RecsOK M L ∧ Q .normal s') : PW P N (.region id ops true) s Q := by
  intro m ρ a w hI
  obtain ⟨s', L, hr, hL, hQ⟩ := EvF_sound _ _ _ hI.hnil h
  exact PW.draw hm M hok hM hr (by simpa using hL) hQ m ρ a w hI
end Go.Proofs.Ytoeppofkmcdknaa.K
