/- Nothing put onto a row; a string's bytes as a row. -/
import Derived.Test.YtonlehebfeilmaaK38
namespace Go.Proofs.Ytonlehebfeilmaa.K
open Go Go.RowKit
set_option linter.unusedVariables false
variable {P : Program}
theorem append_nothing {o : Oper} {S : Nat → PV} {t u : TypeId} {x y : Operand} {l l2 : List D} (ho : o.op = .call { callee := .builtin .append, args := #[x, y], argTypes := #[t, u] }) {sz by' : Nat} (hrow : rowA P t = some (sz, by')) {d : TypeDesc} (hu : P.underlying u = some d) (hd : notInt d = true)
    (hx : evP S x = .full l) (hy : (evP S y).more = some l2) (h0 : l2 = []) : PureRun P o S (.full l) := by
  refine PureRun.still fun m ρ a w hM hxs => ?_
  subst h0
  have h1 := hxs x (by simp [ho, Op.operands, Call.operands])
  have h2 := hxs y (by simp [ho, Op.operands, Call.operands])
  rw [hx] at h1
  obtain ⟨e, i, z, hte, hi, hz, hzs, h0, hsz, hby⟩ := rowA_spec hrow
  obtain ⟨g1, news, g2, g3, g4, g5⟩ := news_of (P := P) hM hy h2 (sz := sz) (by simp)
  have h1' := h1
  simp only [Rep] at h1
  obtain ⟨ad, ev, hrep⟩ := h1
  subst hsz
  have hrun := run_append_none (P := P) t u o.type e d i hte hu hd hi ad l.length (a.eval y) (by simpa using g1) (by
    have := g5 w rfl
    have hnn : news = [] := List.eq_nil_of_length_eq_zero (by simpa using g2)
    subst hnn
    simpa using this)
  exact ⟨_, run_call_append ho (by rw [ev]; exact hrun), by rw [← ev]; exact h1'⟩
theorem pr_appE {o : Oper} {S : Nat → PV} {α : Type} {en : α → D} {c : α → List D} {n by' : Nat} {t u : TypeId} {d : TypeDesc} {x y : Operand} {l l2 : List α} (ho : o.op = .call { callee := .builtin .append, args := #[x, y], argTypes := #[t, u] }) (ht : rowA P t = some (n, by')) (hu : P.underlying u = some d) (hd : notInt d = true) (hl : Lay en c n)
    (hx : evP S x = .full (l.map en)) (hy : (evP S y).more = some (l2.map en)) (h : l2 = []) : PureRun P o S (.full (l.map en)) := append_nothing ho ht hu hd hx hy (by rw [h]; rfl)

section
variable {ops : Array Oper} {o : Oper} {r : List Oper} {S : Nat → PV} {H : HM} {nx : Nat} {df : List (Nat × List PV)}
theorem XK.s2r {Q : PX → St → Prop} {t u e : TypeId} {x : Operand} {l : List UInt8} (d : Option Nat) (hd : o.dst = d) (hg : o.guard = none) (ho : o.op = .convert t u x) (hs : P.underlying t = some .string) (hu : P.underlying u = some (.slice e)) (he : P.underlying e = some (.int .u8))
    (hx : evP S x = .d (.val (sV l))) (hl : l.length ≤ 9223372036854775807) (h : XK P ops r ⟨putS S d (.own nx (l.map byteD)), putH H nx (some (.spare 1 l.length)), nx + 1, df⟩ Q) : XK P ops (o :: r) ⟨S, H, nx, df⟩ Q := by
  subst hd
  exact XK.strRow (s := ⟨S, H, nx, df⟩) hg ho hs hu he hx hl h
theorem RK.s2r {acc : List Rec} {K : St → List Rec → Prop} {t u e : TypeId} {x : Operand} {l : List UInt8} (d : Option Nat) (hd : o.dst = d) (hg : o.guard = none) (ho : o.op = .convert t u x) (hs : P.underlying t = some .string) (hu : P.underlying u = some (.slice e)) (he : P.underlying e = some (.int .u8))
    (hx : evP S x = .d (.val (sV l))) (hl : l.length ≤ 9223372036854775807) (h : RK P ops r ⟨putS S d (.own nx (l.map byteD)), putH H nx (some (.spare 1 l.length)), nx + 1, df⟩ (⟨[], [], nx, nx + 1⟩ :: acc) K) : RK P ops (o :: r) ⟨S, H, nx, df⟩ acc K := by
  subst hd
  exact RK.strRow (s := ⟨S, H, nx, df⟩) hg ho hs hu he hx hl h
end
end Go.Proofs.Ytonlehebfeilmaa.K
