/- Rows' arguments: witnesses. -/
import Derived.Test.YtonlehebfeilmaaK23
import Derived.Test.YtonlehebfeilmaaPWire4
namespace Go.Proofs.Ytonlehebfeilmaa.K
open Go Go.RowKit
set_option linter.unusedVariables false

def linkT : Ty := .st [.int .i64, .slice .str]
def witT : Ty := .st [.arr 32 (.int .u8), .slice linkT]
theorem has_strs {l : List D} (h : HasC (.slice .str) l) : ∃ ts : List (List UInt8), l = [.slice (ts.map eS)] := by
  simp only [HasC] at h
  obtain ⟨xs, rfl, h1, h2⟩ := h
  obtain ⟨ts, h3, rfl⟩ := has_map (e := .str) (f := eS) (fun x hx ha => by
    simp only [HasC] at hx
    obtain ⟨⟨⟨s⟩⟩, hs, _⟩ := hx
    exact ⟨s, cells_sing hs ha⟩) (xs := xs) (by simpa only [HasC] using h2)
  exact ⟨ts, rfl⟩
theorem has_link {l : List D} (h : HasC linkT l) : ∃ x : Link, l = cLink x := by
  unfold linkT HasC HasL at h
  obtain ⟨a, b, rfl, h1, h2⟩ := h
  unfold HasL at h2
  obtain ⟨c, d, rfl, h3, h4⟩ := h2
  unfold HasL at h4
  subst h4
  obtain ⟨ts, rfl⟩ := has_strs h3
  simp only [HasC] at h1
  obtain ⟨n, rfl, _⟩ := h1
  exact ⟨⟨n, ts⟩, rfl⟩
theorem has_witness {l : List D} (h : HasC witT l) : ∃ w : Witness, l = cWitness w := by
  unfold witT HasC HasL at h
  obtain ⟨a, b, rfl, h1, h2⟩ := h
  unfold HasL at h2
  obtain ⟨c, d, rfl, h3, h4⟩ := h2
  unfold HasL at h4
  subst h4
  obtain ⟨k, hk, rfl⟩ := has_bytes h1
  unfold HasC at h3
  obtain ⟨xs, rfl, h5, h6⟩ := h3
  obtain ⟨ls, h7, rfl⟩ := has_map (e := linkT) (f := eLink) (fun x hx ha => by
    obtain ⟨y, hy⟩ := has_link hx
    have : ∃ c, x = .agg c := ha ▸ rfl
    obtain ⟨c, rfl⟩ := this
    exact ⟨y, by simp only [D.cells] at hy; rw [hy]; rfl⟩) (xs := xs) h6
  exact ⟨⟨⟨k, hk⟩, ls⟩, by simp [cWitness]⟩
theorem WirePuts_fun (w z : Witness) : Fun Try.prog 12 [.agg (cWitness w), .agg (cWitness z)] (.val (.bool true)) := sim_law15_WirePuts w z true (WirePuts_true w z)
end Go.Proofs.Ytonlehebfeilmaa.K
