/- The arguments of the laws of layer 06, opened; the laws' functions return true. -/
import Derived.Test.YtoeppofkmcdknaaS6KK
import Derived.Test.YtoeppofkmcdknaaS6PNode7
namespace Go.Proofs.Ytoeppofkmcdknaa.K
open Go Go.RowKit
set_option linter.unusedVariables false
theorem hs_Node {l : List D} (h : HasC (.st [(.int .i64), (.slice (.int .u8)), .str, (.arr 16 .str)]) l) : ∃ x : Node, l = cNode x := by
  unfold HasC HasL at h
  obtain ⟨a0, b0, rfl, h0, g0⟩ := h
  unfold HasL at g0
  obtain ⟨a1, b1, rfl, h1, g1⟩ := g0
  unfold HasL at g1
  obtain ⟨a2, b2, rfl, h2, g2⟩ := g1
  unfold HasL at g2
  obtain ⟨a3, b3, rfl, h3, g3⟩ := g2
  unfold HasL at g3
  subst g3
  obtain ⟨f0, rfl⟩ := hs_int h0
  obtain ⟨f1, _, rfl⟩ := (fun h => hs_slO (f := byteD) rfl (fun c h => has_u8 h) h) h1
  obtain ⟨f2, _, rfl⟩ := hs_str h2
  obtain ⟨f3, rfl⟩ := (fun h => hs_arr (fun c h => hs_strO h) h) h3
  exact ⟨⟨f0, f1, f2, f3⟩, by simp [cNode]⟩
theorem op_NodePuts0 {l : List D} (h : HasC (.st [(.int .i64), (.slice (.int .u8)), .str, (.arr 16 .str)]) l) : ∃ x : Node, l = cNode x := hs_Node h
theorem op_NodeGets0 {l : List D} (h : HasC .str l) : ∃ x : (List UInt8), x.length ≤ maxLen ∧ l = [.val (sV (x))] := hs_str h
theorem op_NodeParts0 {l : List D} (h : HasC (.st [(.int .i64), (.slice (.int .u8)), .str, (.arr 16 .str)]) l) : ∃ x : Node, l = cNode x := hs_Node h
theorem op_NodeParts1 {l : List D} (h : HasC (.st [(.int .i64), (.slice (.int .u8)), .str, (.arr 16 .str)]) l) : ∃ x : Node, l = cNode x := hs_Node h
theorem op_NodeParts2 {l : List D} (h : HasC .str l) : ∃ x : (List UInt8), x.length ≤ maxLen ∧ l = [.val (sV (x))] := hs_str h
theorem NodePuts_fun (n : Node)  : Fun Try.prog 6 [.agg (cNode (n))] (.val (.bool true)) := sim_law06_NodePuts n true (NodePuts_true n)
theorem NodeGets_fun (t : (List UInt8))  : Fun Try.prog 7 [.val (sV (t))] (.val (.bool true)) := sim_law06_NodeGets t true (NodeGets_true t)
theorem NodeParts_fun (a : Node) (b : Node) (t : (List UInt8))  : Fun Try.prog 8 [.agg (cNode (a)), .agg (cNode (b)), .val (sV (t))] (.val (.bool true)) := sim_law06_NodeParts a b t true (NodeParts_true a b t)
end Go.Proofs.Ytoeppofkmcdknaa.K
