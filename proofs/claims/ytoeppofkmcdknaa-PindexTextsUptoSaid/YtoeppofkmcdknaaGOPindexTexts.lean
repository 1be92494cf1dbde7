/- The arguments of PindexTexts, opened; the law's function returns true. -/
import Derived.Test.YtoeppofkmcdknaaGKK
import Derived.Test.YtoeppofkmcdknaaGPPin8
namespace Go.Proofs.Ytoeppofkmcdknaa.K
open Go Go.RowKit
set_option linter.unusedVariables false
theorem hs_Row {l : List D} (h : HasC (.st [(.arr 32 (.int .u8)), (.int .i64), .str]) l) : ∃ x : Row, l = cRow x := by
  unfold HasC HasL at h
  obtain ⟨a0, b0, rfl, h0, g0⟩ := h
  unfold HasL at g0
  obtain ⟨a1, b1, rfl, h1, g1⟩ := g0
  unfold HasL at g1
  obtain ⟨a2, b2, rfl, h2, g2⟩ := g1
  unfold HasL at g2
  subst g2
  obtain ⟨f0, rfl⟩ := (fun h => hs_arr (fun c h => has_u8 h) h) h0
  obtain ⟨f1, rfl⟩ := hs_int h1
  obtain ⟨f2, _, rfl⟩ := hs_str h2
  exact ⟨⟨f0, f1, f2⟩, by simp [cRow]⟩
theorem hs_Act {l : List D} (h : HasC (.st [(.int .i64), (.st [(.arr 32 (.int .u8)), (.int .i64), .str])]) l) : ∃ x : Act, l = cAct x := by
  unfold HasC HasL at h
  obtain ⟨a0, b0, rfl, h0, g0⟩ := h
  unfold HasL at g0
  obtain ⟨a1, b1, rfl, h1, g1⟩ := g0
  unfold HasL at g1
  subst g1
  obtain ⟨f0, rfl⟩ := hs_int h0
  obtain ⟨f1, rfl⟩ := hs_Row h1
  exact ⟨⟨f0, f1⟩, by simp [cAct]⟩
theorem op_PindexTexts0 {l : List D} (h : HasC (.slice (.st [(.int .i64), (.st [(.arr 32 (.int .u8)), (.int .i64), .str])])) l) : ∃ x : (List Act), x.length ≤ maxLen ∧ l = [.slice ((x).map eAct)] := (fun h => hs_slA (c := cAct) (f := eAct) rfl eAct_eq (fun l h => hs_Act h) h) h
theorem op_PindexTexts1 {l : List D} (h : HasC (.arr 32 (.int .u8)) l) : ∃ x : (Arr 32 UInt8), l = x.1.map byteD := (fun h => hs_arr (fun c h => has_u8 h) h) h
theorem op_PindexTexts2 {l : List D} (h : HasC .str l) : ∃ x : (List UInt8), x.length ≤ maxLen ∧ l = [.val (sV (x))] := hs_str h
theorem PindexTexts_fun (l : (List Act)) (a : (Arr 32 UInt8)) (t : (List UInt8)) (hbig : t.length ≤ 1048576) : Fun Try.prog 10 [.slice ((l).map eAct), .agg ((a).1.map byteD), .val (sV (t))] (.val (.bool true)) := sim_law48_PindexTexts l a t true (PindexTexts_true l a t hbig)
theorem bulk_str {P : Program} {H : Type} {enc : TypeId × Value → H} {W : World} {sp : Nat → Bool} {t : TypeId} {v : Value} {d : DataW H} {ps : List MemPlace} {l : List UInt8} (hu : P.underlying t = some .string) (h : DataW.Trod enc P W 0 sp true t v d ps) (e : RepD (memOf W) (D.val (sV l)) v) : ∃ bytes, d = .lit (.string bytes) ∧ bytes.length = l.length := by
  obtain ⟨fuel, h⟩ := h
  obtain ⟨s, hc, hx, _⟩ := DataW.trod_string hu h
  simp only [RepD] at e
  subst e
  have hs : sV l = .string s := by simpa [Value.cells] using hc
  refine ⟨s.data.toList, congrArg Prod.fst hx, ?_⟩
  have := congrArg (fun v => match v with | .string b => b.data.toList.length | _ => 0) hs
  simpa using this.symm
end Go.Proofs.Ytoeppofkmcdknaa.K
