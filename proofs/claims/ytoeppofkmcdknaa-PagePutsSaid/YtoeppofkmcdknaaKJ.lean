import Derived.Test.YtoeppofkmcdknaaKI
/- Small laws for the printed walks. -/
namespace Go.Proofs.Ytoeppofkmcdknaa.K
open Go Go.RowKit
set_option linter.unusedVariables false
set_option linter.unusedSimpArgs false
set_option linter.unusedSectionVars false
variable {P : Program}
theorem EqV.u8 {d : Nat} {t : TypeId} {k : IntKind} {p q : UInt8} (ht : tyA P t = some (false, 1)) (hu : P.underlying t = some (.int k)) : EqV P (d + 1) t 1 [byteD p] [byteD q] (p == q) := by
  have h := EqV.int (P := P) (d := d) (kd := .u8) (a := (p.toNat : Int)) (b := (q.toNat : Int)) ht hu
  have e : (decide ((p.toNat : Int) = (q.toNat : Int))) = (p == q) := by
    by_cases h : p = q
    · subst h; simp
    · have : (p.toNat : Int) ≠ (q.toNat : Int) := fun e => h (UInt8.toNat_inj.1 (by omega))
      rw [decide_eq_false this]; symm; rw [beq_eq_false_iff_ne]; exact h
  rwa [e] at h
theorem ldv_off0 {ag : Bool} {n j : Nat} {l : List PV} {v : PV} (h : LdV ag n j l v) : LdV ag n (0 + j) l v := by rwa [Nat.zero_add]
theorem spl_off0 {l c l' : List PV} {j : Nat} (h : spl l j c = l') : spl l (0 + j) c = l' := by rwa [Nat.zero_add]
theorem le_seg0 {n : Nat} {l : List PV} {i : Int} {tot : Nat} (h : 0 ≤ i ∧ i < (n : Int)) (hl : l.length = tot) (hm : n ≤ tot) : 0 + i.toNat * 1 + 1 ≤ l.length := by omega
theorem le_arr1 {n : Nat} {α : Type} {en : α → D} {a : Arr n α} {i : Int} {p : PV} (h : 0 ≤ i ∧ i < (n : Int)) : i.toNat * 1 + [p].length ≤ ((a.1.map en).map PV.d).length := by simp only [List.length_map, a.2, List.length_singleton]; omega
section
variable {o : Oper} {S : Nat → PV} {H : HM} {nx : Nat} {df : List (Nat × List PV)} {k : PV → HM → Nat → List Nat → List Nat → Prop}
/-- Nothing of nothing. -/
theorem so_sub00 {t : TypeId} {sz by' : Nat} {ag : Bool} {x hi : Operand} (ho : o.op = .slice t x none (some hi) none) (hs : slcA P t = some (sz, by', ag)) (hx : evP S x = .full []) (hh : evP S hi = .d (.val (.int .i64 0))) (hk : k (.full []) H nx [] []) : stepO P o ⟨S, H, nx, df⟩ k := by
  refine so_pure (v := .full []) ?_ Imp.refl hk
  refine PureRun.still fun m ρ a w hm hx' => ?_
  have e1 := hx' x (by simp [ho, Op.operands])
  have e3 : ∀ y, some hi = some y → Rep m ρ (evP S y) (a.eval y) := fun y hy => hx' y (by simp [ho, hy, Op.operands])
  obtain ⟨dst, op', type, pos, after, guard⟩ := o
  simp only at ho
  subst ho
  rw [hx] at e1
  simp only [Rep, List.length_nil] at e1
  obtain ⟨ad, ev, _⟩ := e1
  obtain ⟨et, inf, hu, ht, hi', _, _⟩ := slcA_spec hs
  have hsz := (tyA_spec ht w).2
  have hb := run_bounds (P := P) (w := w) (S := S) (isSl := true) (len := 0) (cap := 0) (lo := none) (hi := some hi) (l := 0) (h := 0) rfl (by simp [bnd, hh]) (by simp) e3 (by omega) (by omega) (by omega) (Nat.le_refl _)
  simp only [Option.map_none, Option.map_some] at hb
  refine ⟨.slice ad 0 0, ?_, ?_⟩
  · simp [execOp, Instr.sliceAt, run_underlying hu, Instr.slice, ev, hb, hsz]
  · simp only [Rep, List.length_nil]; exact ⟨ad, rfl, .inl trivial⟩
end
def AllEq (S : Nat → PV) : List (Nat × PV) → Prop
  | [] => True
  | x :: r => S x.1 = x.2 ∧ AllEq S r
def putz (S : Nat → PV) : List (Nat × PV) → Nat → PV
  | [] => S
  | x :: r => putS (putz S r) (some x.1) x.2
theorem putz_eq {S : Nat → PV} : ∀ {L : List (Nat × PV)}, AllEq S L → putz S L = S
  | [], _ => rfl
  | x :: r, h => by
    funext t
    show putS (putz S r) (some x.1) x.2 t = S t
    rw [putz_eq h.2, putS_at]
    split
    · rename_i e; rw [e]; exact h.1.symm
    · rfl
section
variable {N : Nat} {ops : Array Oper} {o : Oper} {r : List Oper} {S : Nat → PV} {H : HM} {nx : Nat} {df : List (Nat × List PV)} {b : Bool}
/-- Both cases of a test, ahead of operations that wait for it. -/
theorem XK.sp {Q : PX → St → Prop} (L1 L0 : List (Nat × PV)) (h1 : b = true → AllEq S L1) (h0 : b = false → AllEq S L0) (k1 : b = true → XK P ops r ⟨putz S L1, H, nx, df⟩ Q) (k0 : b = false → XK P ops r ⟨putz S L0, H, nx, df⟩ Q) : XK P ops r ⟨S, H, nx, df⟩ Q := by
  cases hb : b with
  | true => have := k1 hb; rwa [putz_eq (h1 hb)] at this
  | false => have := k0 hb; rwa [putz_eq (h0 hb)] at this
theorem RK.sp {acc : List Rec} {K : St → List Rec → Prop} (L1 L0 : List (Nat × PV)) (h1 : b = true → AllEq S L1) (h0 : b = false → AllEq S L0) (k1 : b = true → RK P ops r ⟨putz S L1, H, nx, df⟩ acc K) (k0 : b = false → RK P ops r ⟨putz S L0, H, nx, df⟩ acc K) : RK P ops r ⟨S, H, nx, df⟩ acc K := by
  cases hb : b with
  | true => have := k1 hb; rwa [putz_eq (h1 hb)] at this
  | false => have := k0 hb; rwa [putz_eq (h0 hb)] at this
theorem on_imp {x : Operand} {m : Mem} {ρ : Ren} {u : Value} (h : Rep m ρ (evP S x) u) : Rep m ρ (evP (unT S) x) u := by rw [evP_unT]; exact unC_rep h
theorem XK.onF {Q : PX → St → Prop} (d : Option Nat) (hd : o.dst = d) (hg : guardP ops o S = some true) (h : stepF P [] o ⟨unT S, H, nx, df⟩ fun v H' nx' _ _ => XK P ops r ⟨putS S d v, H', nx', df⟩ Q) : XK P ops (o :: r) ⟨S, H, nx, df⟩ Q := by
  intro hn
  subst hd
  obtain ⟨v, H', nx', T, W, h1, h3⟩ := stepF_sound (s := ⟨unT S, H, nx, df⟩) hn h
  exact .step (.on hg (unT S) (fun x _ m ρ u hr => on_imp hr) h1) (h3 h1.nil)
theorem RK.onF {acc : List Rec} {K : St → List Rec → Prop} (d : Option Nat) (hd : o.dst = d) (hg : guardP ops o S = some true) (h : stepF P [] o ⟨unT S, H, nx, df⟩ fun v H' nx' T W => RK P ops r ⟨putS S d v, H', nx', df⟩ (⟨T, W, nx, nx'⟩ :: acc) K) : RK P ops (o :: r) ⟨S, H, nx, df⟩ acc K := by
  intro hn
  subst hd
  obtain ⟨v, H', nx', T, W, h1, h3⟩ := stepF_sound (s := ⟨unT S, H, nx, df⟩) hn h
  obtain ⟨s', L, h4, h5⟩ := h3 h1.nil
  exact ⟨s', _, .cons (.on hg (unT S) (fun x _ m ρ u hr => on_imp hr) h1) h4, by simpa using h5⟩
theorem XK.oo {Q : PX → St → Prop} (d : Option Nat) (hd : o.dst = d) (hg : guardP ops o S = some true) (h : stepO P o ⟨unT S, H, nx, df⟩ fun v H' nx' _ _ => XK P ops r ⟨putS S d v, H', nx', df⟩ Q) : XK P ops (o :: r) ⟨S, H, nx, df⟩ Q := by
  intro hn
  subst hd
  obtain ⟨v, H', nx', T, W, h1, h3⟩ := h hn
  exact .step (.on hg (unT S) (fun x _ m ρ u hr => on_imp hr) h1) (h3 h1.nil)
theorem RK.oo {acc : List Rec} {K : St → List Rec → Prop} (d : Option Nat) (hd : o.dst = d) (hg : guardP ops o S = some true) (h : stepO P o ⟨unT S, H, nx, df⟩ fun v H' nx' T W => RK P ops r ⟨putS S d v, H', nx', df⟩ (⟨T, W, nx, nx'⟩ :: acc) K) : RK P ops (o :: r) ⟨S, H, nx, df⟩ acc K := by
  intro hn
  subst hd
  obtain ⟨v, H', nx', T, W, h1, h3⟩ := h hn
  obtain ⟨s', L, h4, h5⟩ := h3 h1.nil
  exact ⟨s', _, .cons (.on hg (unT S) (fun x _ m ρ u hr => on_imp hr) h1) h4, by simpa using h5⟩
end
section
variable {N : Nat} {ops : Array Oper} {o : Oper} {r : List Oper} {S : Nat → PV} {H : HM} {nx : Nat} {df : List (Nat × List PV)}
/-- A call that returns what is taken for something else. -/
theorem XK.fi {Q : PX → St → Prop} {out : Out} {H2 : HM} {nx2 n : Nat} {p p' : PV} (d : Option Nat) (hd : o.dst = d) (hg : o.guard = none) {f : Nat → Nat} {M' : List HO} (h : XCall P o ⟨S, H, nx, df⟩ fun out' H' nx' => out' = out.re f ∧ H' = putsR f M' 0 H ∧ nx' = nx + n)
    (ho : out.re f = .ret p) (hH : putsR f M' 0 H = H2) (hn : nx + n = nx2) (hi : Imp p p') (k : XK P ops r ⟨putS S d p', H2, nx2, df⟩ Q) : XK P ops (o :: r) ⟨S, H, nx, df⟩ Q := by
  subst hd hH hn
  have h' : XCall P o ⟨S, H, nx, df⟩ fun out' H' nx' => out' = .ret p' ∧ H' = putsR f M' 0 H ∧ nx' = nx + n := by
    intro m ρ a w K Q' V hnn hρ hx h1 h2
    refine h m ρ a w K Q' V hnn hρ hx ?_ ?_
    · rintro q H' nx' m' ρ' w' u ⟨e, rfl, rfl⟩ V' hn' hρ' hA hr
      rw [ho] at e; cases e
      exact h1 p' _ _ m' ρ' w' u ⟨rfl, rfl, rfl⟩ V' hn' hρ' hA (hi _ _ _ hr)
    · rintro q H' nx' m' ρ' w' u ⟨e, rfl, rfl⟩
      rw [ho] at e; cases e
  refine fun hnil => .call hg h' ?_ ?_
  · rintro q H' nx' ⟨e, rfl, rfl⟩ hn'
    cases e
    exact k hn'
  · rintro q H' nx' ⟨e, _⟩
    cases e
/-- A row against nil. -/
theorem XK.nt {Q : PX → St → Prop} {t e u : TypeId} {x : Operand} {α : Type} {en : α → D} {l : List α} (d : Option Nat) (hd : o.dst = d) (hg : o.guard = none) (ho : o.op = .binOp .eql t x (.const (.slice none 0 0)) u) (hu : P.underlying t = some (.slice e)) (hx : evP S x = .d (.slice (l.map en)))
    (h0 : l = [] → XK P ops r ⟨putS S d (.d (.val (.bool true))), H, nx, df⟩ Q) (h1 : XK P ops r ⟨putS S d (.d (.val (.bool false))), H, nx, df⟩ Q) : XK P ops (o :: r) ⟨S, H, nx, df⟩ Q := by
  subst hd
  refine XK.nilTest (s := ⟨S, H, nx, df⟩) hg ho (.inl rfl) hu hx fun b hb => ?_
  cases b with
  | true => exact h0 (by cases l with | nil => rfl | cons y ys => simp at hb)
  | false => exact h1
end
end Go.Proofs.Ytoeppofkmcdknaa.K
