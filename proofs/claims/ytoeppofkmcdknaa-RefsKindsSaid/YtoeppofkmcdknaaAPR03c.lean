import Derived.Test.YtoeppofkmcdknaaAPR03b
/- The reference's sum of any text; texts of one sum. -/
namespace Go.Proofs.Ytoeppofkmcdknaa.K
open Go
set_option linter.unusedVariables false
set_option linter.unusedSimpArgs false
def shaA (s : List UInt8) : Arr 32 UInt8 := ⟨shaB s, shaB_len s⟩
theorem SumOf_ok (s : List UInt8) (hs : s.length ≤ 1000000) : g_sum_Of s = some (shaA s) := by
  obtain ⟨r, h1, h2⟩ := SOf_ok s hs
  rw [h2]; congr 1; exact Subtype.ext h1
def cl (l : List (List UInt8)) (j k : Nat) : Prop := shaB (idx l (j : Int)) = shaB (idx l (k : Int)) ∧ idx l (j : Int) ≠ idx l (k : Int)
theorem idx_map_take {α β : Type} [Inhabited α] [Inhabited β] (f : α → β) (l : List α) {i k : Nat} (h : i < k) (hk : k ≤ l.length) : idx ((l.take k).map f) (i : Int) = f (idx l (i : Int)) := by
  rw [idx_get _ (by simp; omega), idx_get l (by omega)]
  simp
theorem map_take_succ {α β : Type} [Inhabited α] (f : α → β) (l : List α) {k : Nat} (hk : k < l.length) : (l.take k).map f ++ [f (idx l (k : Int))] = (l.take (k + 1)).map f := by
  rw [take_idx l hk, List.map_append]; rfl
end Go.Proofs.Ytoeppofkmcdknaa.K
