/- The arguments of the laws of layer 47, opened; the laws' functions return true. -/
import Derived.Test.YtoeppofkmcdknaaKK
import Derived.Test.YtoeppofkmcdknaaPPage5
namespace Go.Proofs.Ytoeppofkmcdknaa.K
open Go Go.RowKit
set_option linter.unusedVariables false
theorem hs_Row {l : List D} (h : HasC (.st [(.arr 32 (.int .u8)), (.int .i64), .str]) l) : ∃ x : Row, l = cRow x := by
  unfold HasC HasL at h
  obtain ⟨a0, b0, rfl, h0, g0⟩ := h
  unfold HasL at g0
  obtain ⟨a1, b1, rfl, h1, g1⟩ := g0
  unfold HasL at g1
  obtain ⟨a2, b2, rfl, h2, g2⟩ := g1
  unfold HasL at g2
  subst g2
  obtain ⟨f0, rfl⟩ := (fun h => hs_arr (fun c h => has_u8 h) h) h0
  obtain ⟨f1, rfl⟩ := hs_int h1
  obtain ⟨f2, _, rfl⟩ := hs_str h2
  exact ⟨⟨f0, f1, f2⟩, by simp [cRow]⟩
theorem op_PagePuts0 {l : List D} (h : HasC (.slice (.st [(.arr 32 (.int .u8)), (.int .i64), .str])) l) : ∃ x : (List Row), x.length ≤ maxLen ∧ l = [.slice ((x).map eRow)] := (fun h => hs_slA (c := cRow) (f := eRow) rfl eRow_eq (fun l h => hs_Row h) h) h
theorem op_PagePuts1 {l : List D} (h : HasC (.slice (.st [(.arr 32 (.int .u8)), (.int .i64), .str])) l) : ∃ x : (List Row), x.length ≤ maxLen ∧ l = [.slice ((x).map eRow)] := (fun h => hs_slA (c := cRow) (f := eRow) rfl eRow_eq (fun l h => hs_Row h) h) h
theorem op_PageGets0 {l : List D} (h : HasC .str l) : ∃ x : (List UInt8), x.length ≤ maxLen ∧ l = [.val (sV (x))] := hs_str h
theorem op_PageRows0 {l : List D} (h : HasC (.slice (.st [(.arr 32 (.int .u8)), (.int .i64), .str])) l) : ∃ x : (List Row), x.length ≤ maxLen ∧ l = [.slice ((x).map eRow)] := (fun h => hs_slA (c := cRow) (f := eRow) rfl eRow_eq (fun l h => hs_Row h) h) h
theorem op_PageRows1 {l : List D} (h : HasC (.st [(.arr 32 (.int .u8)), (.int .i64), .str]) l) : ∃ x : Row, l = cRow x := hs_Row h
theorem op_PageRows2 {l : List D} (h : HasC (.int .i64) l) : ∃ x : Int, l = [.val (.int .i64 (x))] := hs_int h
theorem PagePuts_fun (l : (List Row)) (m : (List Row)) (hl : l.length ≤ maxLen) (hm : m.length ≤ maxLen) : Fun Try.prog 3 [.slice ((l).map eRow), .slice ((m).map eRow)] (.val (.bool true)) := sim_law47_PagePuts l m true (PagePuts_true l m hl hm)
theorem PageGets_fun (t : (List UInt8))  : Fun Try.prog 4 [.val (sV (t))] (.val (.bool true)) := sim_law47_PageGets t true (PageGets_true t)
theorem PageRows_fun (l : (List Row)) (r : Row) (i : Int) (hl : l.length ≤ maxLen) : Fun Try.prog 5 [.slice ((l).map eRow), .agg (cRow (r)), .val (.int .i64 (i))] (.val (.bool true)) := sim_law47_PageRows l r i true (PageRows_true l r i hl)
end Go.Proofs.Ytoeppofkmcdknaa.K
