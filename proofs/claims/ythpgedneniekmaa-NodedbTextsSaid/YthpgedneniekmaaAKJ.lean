import Derived.Test.YthpgedneniekmaaAKI
/- Small laws for the printed walks. -/
namespace Go.Proofs.Ythpgedneniekmaa.K
open Go Go.RowKit
set_option linter.unusedVariables false
set_option linter.unusedSimpArgs false
set_option linter.unusedSectionVars false
variable {P : Program}
theorem EqV.u8 {d : Nat} {t : TypeId} {k : IntKind} {p q : UInt8} (ht : tyA P t = some (false, 1)) (hu : P.underlying t = some (.int k)) : EqV P (d + 1) t 1 [byteD p] [byteD q] (p == q) := by
  have h := EqV.int (P := P) (d := d) (kd := .u8) (a := (p.toNat : Int)) (b := (q.toNat : Int)) ht hu
  have e : (decide ((p.toNat : Int) = (q.toNat : Int))) = (p == q) := by
    by_cases h : p = q
    · subst h; simp
    · have : (p.toNat : Int) ≠ (q.toNat : Int) := fun e => h (UInt8.toNat_inj.1 (by omega))
      rw [decide_eq_false this]; symm; rw [beq_eq_false_iff_ne]; exact h
  rwa [e] at h
section
variable {o : Oper} {S : Nat → PV} {H : HM} {nx : Nat} {df : List (Nat × List PV)} {k : PV → HM → Nat → List Nat → List Nat → Prop}
theorem so_sub00 {t : TypeId} {sz by' : Nat} {ag : Bool} {x hi : Operand} (ho : o.op = .slice t x none (some hi) none) (hs : slcA P t = some (sz, by', ag)) (hx : evP S x = .full []) (hh : evP S hi = .d (.val (.int .i64 0))) (hk : k (.full []) H nx [] []) : stepO P o ⟨S, H, nx, df⟩ k := by
  refine so_pure (v := .full []) ?_ Imp.refl hk
  refine PureRun.still fun m ρ a w hm hx' => ?_
  have e1 := hx' x (by simp [ho, Op.operands])
  have e3 : ∀ y, some hi = some y → Rep m ρ (evP S y) (a.eval y) := fun y hy => hx' y (by simp [ho, hy, Op.operands])
  obtain ⟨dst, op', type, pos, after, guard⟩ := o
  simp only at ho
  subst ho
  rw [hx] at e1
  simp only [Rep, List.length_nil] at e1
  obtain ⟨ad, ev, _⟩ := e1
  obtain ⟨et, inf, hu, ht, hi', _, _⟩ := slcA_spec hs
  have hsz := (tyA_spec ht w).2
  have hb := run_bounds (P := P) (w := w) (S := S) (isSl := true) (len := 0) (cap := 0) (lo := none) (hi := some hi) (l := 0) (h := 0) rfl (by simp [bnd, hh]) (by simp) e3 (by omega) (by omega) (by omega) (Nat.le_refl _)
  simp only [Option.map_none, Option.map_some] at hb
  refine ⟨.slice ad 0 0, ?_, ?_⟩
  · simp [execOp, Instr.sliceAt, run_underlying hu, Instr.slice, ev, hb, hsz]
  · simp only [Rep, List.length_nil]; exact ⟨ad, rfl, .inl trivial⟩
end
section
variable {N : Nat} {ops : Array Oper} {o : Oper} {r : List Oper} {S : Nat → PV} {H : HM} {nx : Nat} {df : List (Nat × List PV)}
theorem XK.fi {Q : PX → St → Prop} {out : Out} {H2 : HM} {nx2 n : Nat} {p p' : PV} (d : Option Nat) (hd : o.dst = d) (hg : o.guard = none) {f : Nat → Nat} {M' : List HO} (h : XCall P o ⟨S, H, nx, df⟩ fun out' H' nx' => out' = out.re f ∧ H' = putsR f M' 0 H ∧ nx' = nx + n)
    (ho : out.re f = .ret p) (hH : putsR f M' 0 H = H2) (hn : nx + n = nx2) (hi : Imp p p') (k : XK P ops r ⟨putS S d p', H2, nx2, df⟩ Q) : XK P ops (o :: r) ⟨S, H, nx, df⟩ Q := by
  subst hd hH hn
  have h' : XCall P o ⟨S, H, nx, df⟩ fun out' H' nx' => out' = .ret p' ∧ H' = putsR f M' 0 H ∧ nx' = nx + n := by
    intro m ρ a w K Q' V hnn hρ hx h1 h2
    refine h m ρ a w K Q' V hnn hρ hx ?_ ?_
    · rintro q H' nx' m' ρ' w' u ⟨e, rfl, rfl⟩ V' hn' hρ' hA hr
      rw [ho] at e; cases e
      exact h1 p' _ _ m' ρ' w' u ⟨rfl, rfl, rfl⟩ V' hn' hρ' hA (hi _ _ _ hr)
    · rintro q H' nx' m' ρ' w' u ⟨e, rfl, rfl⟩
      rw [ho] at e; cases e
  refine fun hnil => .call hg h' ?_ ?_
  · rintro q H' nx' ⟨e, rfl, rfl⟩ hn'
    cases e
    exact k hn'
  · rintro q H' nx' ⟨e, _⟩
    cases e
theorem XK.nt {Q : PX → St → Prop} {t e u : TypeId} {x : Operand} {α : Type} {en : α → D} {l : List α} (d : Option Nat) (hd : o.dst = d) (hg : o.guard = none) (ho : o.op = .binOp .eql t x (.const (.slice none 0 0)) u) (hu : P.underlying t = some (.slice e)) (hx : evP S x = .d (.slice (l.map en)))
    (h0 : l = [] → XK P ops r ⟨putS S d (.d (.val (.bool true))), H, nx, df⟩ Q) (h1 : XK P ops r ⟨putS S d (.d (.val (.bool false))), H, nx, df⟩ Q) : XK P ops (o :: r) ⟨S, H, nx, df⟩ Q := by
  subst hd
  refine XK.nilTest (s := ⟨S, H, nx, df⟩) hg ho (.inl rfl) hu hx fun b hb => ?_
  cases b with
  | true => exact h0 (by cases l with | nil => rfl | cons y ys => simp at hb)
  | false => exact h1
end
end Go.Proofs.Ythpgedneniekmaa.K
