/- Regions by the reckoner. -/
import Derived.Test.YtonlehebfeilmaaK17
namespace Go.Proofs.Ytonlehebfeilmaa.K
open Go Go.RowKit

variable {P : Program} {N : Nat}

/-- A region in the text's order. -/
theorem PW.regX {id : Nat} {ops : Array Oper} {s : St} {Q : PX → St → Prop} (frz : List Nat) (hok : dstsIn ops N = true) (h : EvX P ops frz ops.toList s Q) : PW P N (.region id ops false) s Q := by
  intro m ρ a w hI
  exact PW.region hok (EvX_sound _ _ hI.hnil h) m ρ a w hI

/-- A region that draws its order; M is its table of masks. -/
theorem PW.drawK {id : Nat} {ops : Array Oper} {s : St} {Q : PX → St → Prop} (frz : List Nat) (hm : P.follows .mixedOrders = true) {M : List Nat} (hM : M = masks ops.toList []) (hok : regionOK ops N M = true)
    (h : EvF P ops frz ops.toList s [] fun s' L => RecsOK M L ∧ Q .normal s') : PW P N (.region id ops true) s Q := by
  intro m ρ a w hI
  obtain ⟨s', L, hr, hL, hQ⟩ := EvF_sound _ _ _ hI.hnil h
  exact PW.draw hm M hok hM hr (by simpa using hL) hQ m ρ a w hI
end Go.Proofs.Ytonlehebfeilmaa.K
