import Derived.Test.YthpgedneniekmaaAKC
/- Nothing put onto a row; a string's bytes as a row. -/
namespace Go.Proofs.Ythpgedneniekmaa.K
open Go Go.RowKit
set_option linter.unusedVariables false
variable {P : Program}
section
variable {ops : Array Oper} {o : Oper} {r : List Oper} {S : Nat → PV} {H : HM} {nx : Nat} {df : List (Nat × List PV)}
theorem XK.s2r {Q : PX → St → Prop} {t u e : TypeId} {x : Operand} {l : List UInt8} (d : Option Nat) (hd : o.dst = d) (hg : o.guard = none) (ho : o.op = .convert t u x) (hs : P.underlying t = some .string) (hu : P.underlying u = some (.slice e)) (he : P.underlying e = some (.int .u8))
    (hx : evP S x = .d (.val (sV l))) (hl : l.length ≤ 9223372036854775807) (h : XK P ops r ⟨putS S d (.own nx (l.map byteD)), putH H nx (some (.spare 1 l.length)), nx + 1, df⟩ Q) : XK P ops (o :: r) ⟨S, H, nx, df⟩ Q := by
  subst hd
  exact XK.strRow (s := ⟨S, H, nx, df⟩) hg ho hs hu he hx hl h
end
end Go.Proofs.Ythpgedneniekmaa.K
/- Variables of structs with arrays, whose other cells are kept apart. -/
namespace Go.Proofs.Ythpgedneniekmaa.K
open Go Go.RowKit
set_option linter.unusedVariables false
variable {P : Program}
theorem res_app (f : Nat → Nat) : ∀ (a b : List PV), PV.res f (a ++ b) = PV.res f a ++ PV.res f b
  | [], _ => rfl
  | x :: r, b => by simp only [List.cons_append, PV.res, res_app f r b]
theorem toD_agg {l : List PV} {x : List D} (h : PV.toDs l = some x) : PV.toD (.agg l) = some (.agg x) := by simp only [PV.toD, h, Option.map_some]
theorem ldv_in {ag : Bool} {n : Nat} {A R : List PV} {v : PV} (m j : Nat) (h : A.length = m) (H : LdV ag n j R v) : LdV ag n (m + j) (A ++ R) v := by
  subst h
  obtain ⟨⟨h1, h2⟩, h3⟩ := H
  refine ⟨⟨by rw [List.length_append]; omega, h2⟩, ?_⟩
  unfold partP at h3 ⊢
  cases ag with
  | true =>
    simp only [if_true] at h3 ⊢
    rw [List.drop_append, List.drop_eq_nil_of_le (Nat.le_add_right _ _), List.nil_append, Nat.add_sub_cancel_left]
    exact h3
  | false =>
    simp only [Bool.false_eq_true, if_false] at h3 ⊢
    rw [List.getD_eq_getElem?_getD, List.getElem?_append_right (Nat.le_add_right _ _), Nat.add_sub_cancel_left, ← List.getD_eq_getElem?_getD]
    exact h3
theorem ldv_left {ag : Bool} {n j : Nat} {A R : List PV} {v : PV} (H : LdV ag n j A v) : LdV ag n j (A ++ R) v := by
  obtain ⟨⟨h1, h2⟩, h3⟩ := H
  refine ⟨⟨by rw [List.length_append]; omega, h2⟩, ?_⟩
  unfold partP at h3 ⊢
  cases ag with
  | true =>
    simp only [if_true] at h3 ⊢
    rw [List.drop_append_of_le_length (by omega), List.take_append_of_le_length (by rw [List.length_drop]; omega)]
    exact h3
  | false =>
    simp only [Bool.false_eq_true, if_false] at h3 ⊢
    rw [List.getD_eq_getElem?_getD, List.getElem?_append_left (by omega), ← List.getD_eq_getElem?_getD]
    exact h3
theorem spl_in {A R R' c : List PV} (m j : Nat) (h : A.length = m) (H : spl R j c = R') : spl (A ++ R) (m + j) c = A ++ R' := by
  subst h
  unfold spl at H ⊢
  rw [List.take_append, List.drop_append, List.take_of_length_le (Nat.le_add_right _ _), List.drop_eq_nil_of_le (by omega), List.nil_append, Nat.add_sub_cancel_left, show A.length + j + c.length - A.length = j + c.length by omega, List.append_assoc, H]
theorem spl_seg {A R c : List PV} {m : Nat} (h : A.length = m) (hc : c.length = m) : spl (A ++ R) 0 c = c ++ R := by
  unfold spl
  rw [List.take_zero, List.nil_append, Nat.zero_add, hc, ← h, List.drop_left' rfl]
variable {N b : Nat}
end Go.Proofs.Ythpgedneniekmaa.K
