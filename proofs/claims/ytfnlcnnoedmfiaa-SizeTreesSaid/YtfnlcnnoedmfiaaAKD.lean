import Derived.Test.YtfnlcnnoedmfiaaAKC
/- Nothing put onto a row; a string's bytes as a row. -/
namespace Go.Proofs.Ytfnlcnnoedmfiaa.K
open Go Go.RowKit
set_option linter.unusedVariables false
variable {P : Program}
end Go.Proofs.Ytfnlcnnoedmfiaa.K
/- Variables of structs with arrays, whose other cells are kept apart. -/
namespace Go.Proofs.Ytfnlcnnoedmfiaa.K
open Go Go.RowKit
set_option linter.unusedVariables false
variable {P : Program}
theorem res_app (f : Nat → Nat) : ∀ (a b : List PV), PV.res f (a ++ b) = PV.res f a ++ PV.res f b
  | [], _ => rfl
  | x :: r, b => by simp only [List.cons_append, PV.res, res_app f r b]
theorem toDs_app {a b : List PV} {x y : List D} (ha : PV.toDs a = some x) (hb : PV.toDs b = some y) : PV.toDs (a ++ b) = some (x ++ y) := by
  induction a generalizing x with
  | nil => simp only [PV.toDs, Option.some.injEq] at ha; subst ha; exact hb
  | cons p r ih =>
    simp only [PV.toDs] at ha
    cases hp : p.toD with
    | none => rw [hp] at ha; cases ha
    | some q =>
      rw [hp] at ha
      cases hr : PV.toDs r with
      | none => rw [hr] at ha; cases ha
      | some z =>
        rw [hr] at ha
        simp only [Option.map_some, Option.some.injEq] at ha
        subst ha
        simp only [List.cons_append, PV.toDs, hp, ih hr, Option.map_some]
theorem toDs_appS : ∀ (a b : List PV), PV.toDs (a ++ b) = (PV.toDs a).bind fun x => (PV.toDs b).map fun y => x ++ y
  | [], b => by cases h : PV.toDs b <;> simp [PV.toDs, h]
  | p :: r, b => by
    simp only [List.cons_append, PV.toDs, toDs_appS r b]
    cases p.toD with
    | none => rfl
    | some q => cases PV.toDs r with
      | none => rfl
      | some z => cases PV.toDs b <;> rfl
theorem toD_agg {l : List PV} {x : List D} (h : PV.toDs l = some x) : PV.toD (.agg l) = some (.agg x) := by simp only [PV.toD, h, Option.map_some]
theorem len_app {A R : List PV} {a b n : Nat} (h : A.length = a) (k : R.length = b) (e : a + b = n) : (A ++ R).length = n := by rw [List.length_append, h, k, e]
theorem le_of_len {l : List PV} {off n m : Nat} (h : l.length = m) (k : off + n ≤ m) : off + n ≤ l.length := by rw [h]; exact k
theorem ldv_left {ag : Bool} {n j : Nat} {A R : List PV} {v : PV} (H : LdV ag n j A v) : LdV ag n j (A ++ R) v := by
  obtain ⟨⟨h1, h2⟩, h3⟩ := H
  refine ⟨⟨by rw [List.length_append]; omega, h2⟩, ?_⟩
  unfold partP at h3 ⊢
  cases ag with
  | true =>
    simp only [if_true] at h3 ⊢
    rw [List.drop_append_of_le_length (by omega), List.take_append_of_le_length (by rw [List.length_drop]; omega)]
    exact h3
  | false =>
    simp only [Bool.false_eq_true, if_false] at h3 ⊢
    rw [List.getD_eq_getElem?_getD, List.getElem?_append_left (by omega), ← List.getD_eq_getElem?_getD]
    exact h3
theorem ldv_whole {n : Nat} {l : List PV} (h : l.length = n) (hp : 0 < n) : LdV true n 0 l (.agg l) := by
  refine ⟨⟨by omega, hp⟩, ?_⟩
  simp only [partP, if_true, List.drop_zero]
  rw [List.take_of_length_le (by omega)]
theorem spl_in {A R R' c : List PV} (m j : Nat) (h : A.length = m) (H : spl R j c = R') : spl (A ++ R) (m + j) c = A ++ R' := by
  subst h
  unfold spl at H ⊢
  rw [List.take_append, List.drop_append, List.take_of_length_le (Nat.le_add_right _ _), List.drop_eq_nil_of_le (by omega), List.nil_append, Nat.add_sub_cancel_left, show A.length + j + c.length - A.length = j + c.length by omega, List.append_assoc, H]
theorem spl_left {A R A' c : List PV} (j : Nat) (h : j + c.length ≤ A.length) (H : spl A j c = A') : spl (A ++ R) j c = A' ++ R := by
  unfold spl at H ⊢
  rw [List.take_append_of_le_length (by omega), List.drop_append_of_le_length h, ← H, List.append_assoc, List.append_assoc]
variable {N b : Nat}
end Go.Proofs.Ytfnlcnnoedmfiaa.K
