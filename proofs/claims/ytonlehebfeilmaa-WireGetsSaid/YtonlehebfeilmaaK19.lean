/- What keeps the reckoning from entering what is not yet reached; the lookups. -/
import Derived.Test.YtonlehebfeilmaaK18
import Derived.IntWalk
namespace Go.Proofs.Ytonlehebfeilmaa.K
open Go Go.RowKit

variable {P : Program} {N : Nat}

theorem PW_congr {c : Code} {s s' : St} {Q : PX → St → Prop} (h : s = s') : PW P N c s Q = PW P N c s' Q := by rw [h]
theorem EvX_congr {ops : Array Oper} {frz : List Nat} {r : List Oper} {s s' : St} {Q : PX → St → Prop} (h : s = s') : EvX P ops frz r s Q = EvX P ops frz r s' Q := by rw [h]
theorem EvF_congr {ops : Array Oper} {frz : List Nat} {r : List Oper} {s s' : St} {acc acc' : List Rec} {K : St → List Rec → Prop} (h : s = s') (ha : acc = acc') : EvF P ops frz r s acc K = EvF P ops frz r s' acc' K := by rw [h, ha]
theorem stepF_congr {frz : List Nat} {o : Oper} {s s' : St} {k : PV → HM → Nat → List Nat → List Nat → Prop} (h : s = s') : stepF P frz o s k = stepF P frz o s' k := by rw [h]
theorem guardF_congr {g g' : Bool} {o : Oper} {s s' : St} {k : PV → List Nat → Prop} (hg : g = g') (h : s = s') : guardF P g o s k = guardF P g' o s' k := by rw [hg, h]
theorem then_congr {next : St → Prop} {Q : PX → St → Prop} {px px' : PX} {s s' : St} (hp : px = px') (h : s = s') : PX.then next Q px s = PX.then next Q px' s' := by rw [hp, h]
theorem inBlock_congr {id : Nat} {Q : PX → St → Prop} {px px' : PX} {s s' : St} (hp : px = px') (h : s = s') : PX.inBlock id Q px s = PX.inBlock id Q px' s' := by rw [hp, h]
theorem Ends_congr {rs : List ResultVar} {post : PV → Prop} {px px' : PX} {s s' : St} (hp : px = px') (h : s = s') : Ends P rs post px s = Ends P rs post px' s' := by rw [hp, h]
theorem appendF_congr {s s' : St} {x x' y y' : PV} {t u : TypeId} {k : PV → HM → Nat → List Nat → List Nat → Prop} (h : s = s') (hx : x = x') (hy : y = y') : appendF P s x y t u k = appendF P s' x' y' t u k := by rw [h, hx, hy]

theorem putS_at {S : Nat → PV} {d t : Nat} {v : PV} : putS S (some d) v t = if t = d then v else S t := rfl
theorem putS_none {S : Nat → PV} {v : PV} : putS S none v = S := rfl
theorem putH_at {H : HM} {k i : Nat} {v : Option HO} : putH H k v i = if i = k then v else H i := rfl

theorem then_normal {next : St → Prop} {Q : PX → St → Prop} {s : St} : PX.then next Q .normal s = next s := rfl
theorem then_exit {next : St → Prop} {Q : PX → St → Prop} {s : St} {i : Nat} : PX.then next Q (.exit i) s = Q (.exit i) s := rfl
theorem then_ret {next : St → Prop} {Q : PX → St → Prop} {s : St} : PX.then next Q .ret s = Q .ret s := rfl
theorem then_panic {next : St → Prop} {Q : PX → St → Prop} {s : St} {p : PV} : PX.then next Q (.panic p) s = Q (.panic p) s := rfl
theorem block_normal {id : Nat} {Q : PX → St → Prop} {s : St} : PX.inBlock id Q .normal s = Q .normal s := rfl
theorem block_exit {id i : Nat} {Q : PX → St → Prop} {s : St} : PX.inBlock id Q (.exit i) s = if i = id then Q .normal s else Q (.exit i) s := rfl
theorem block_ret {id : Nat} {Q : PX → St → Prop} {s : St} : PX.inBlock id Q .ret s = Q .ret s := rfl
theorem block_panic {id : Nat} {Q : PX → St → Prop} {s : St} {p : PV} : PX.inBlock id Q (.panic p) s = Q (.panic p) s := rfl

theorem initS_zero {x : D} {r : List D} : initS (x :: r) 0 = .d x := rfl
theorem initS_succ {x : D} {r : List D} {t : Nat} : initS (x :: r) (t + 1) = initS r t := rfl
theorem initP_zero {x : PV} {r : List PV} : initP (x :: r) 0 = x := rfl
theorem initP_succ {x : PV} {r : List PV} {t : Nat} : initP (x :: r) (t + 1) = initP r t := by simp [initP]

theorem wrap_i64 {n : Int} (h : -9223372036854775808 ≤ n ∧ n ≤ 9223372036854775807) : IntKind.i64.wrap n = n := IntWalk.i64_in n h
theorem wrap_u8 {n : Int} (h : 0 ≤ n ∧ n ≤ 255) : IntKind.u8.wrap n = n := IntWalk.u8_in n h
theorem wrap_u64 {n : Int} (h : 0 ≤ n ∧ n ≤ 18446744073709551615) : IntKind.u64.wrap n = n := IntWalk.u64_in n h

open Classical in
/-- A loop whose invariant bears a number that falls at each round. -/
theorem PW.loopN {c : Code} {s : St} {Q : PX → St → Prop} (I : Nat → St → Prop) (k : Nat) (h0 : I k s) (round : ∀ k s, I k s → PW P N c s (PX.then (fun s' => ∃ j, j < k ∧ I j s') Q)) : PW P N (.loop c) s Q := by
  have hl : ∀ s, (∃ k, I k s) → ∃ k, I k s ∧ ∀ j, I j s → k ≤ j := fun s ⟨k, hk⟩ => least (p := fun k => I k s) k hk
  refine PW.loop (fun s => ∃ k, I k s) (fun s => if h : ∃ k, I k s ∧ ∀ j, I j s → k ≤ j then Classical.choose h else 0) ⟨k, h0⟩ ?_
  intro s hs
  have h1 := hl s hs
  have hc := Classical.choose_spec h1
  refine (round _ s hc.1).mono ?_
  intro px s' hq
  cases px with
  | normal =>
    obtain ⟨j, hj, hI⟩ := hq
    have h2 := hl s' ⟨j, hI⟩
    refine ⟨⟨j, hI⟩, ?_⟩
    show (if h : ∃ k, I k s' ∧ ∀ j, I j s' → k ≤ j then Classical.choose h else 0) < (if h : ∃ k, I k s ∧ ∀ j, I j s → k ≤ j then Classical.choose h else 0)
    rw [dif_pos h1, dif_pos h2]
    have := (Classical.choose_spec h2).2 j hI
    omega
  | exit i => exact hq
  | ret => exact hq
  | panic p => exact hq

theorem cells_val {v : Value} : (D.val v).cells = [.val v] := rfl
theorem cells_agg {l : List D} : (D.agg l).cells = l := rfl
theorem cells_slice {l : List D} : (D.slice l).cells = [.slice l] := rfl
theorem cells_cptr {l : List D} : (D.cptr l).cells = [.cptr l] := rfl
theorem cells_clo {f : Nat} {l : List D} : (D.clo f l).cells = [.clo f l] := rfl
theorem cells_iface {t : TypeId} {x : D} : (D.iface t x).cells = [.iface t x] := rfl

/-! ### Rows of bytes -/

theorem cells_byte (b : UInt8) : (byteD b).cells = [byteD b] := rfl
theorem getD_byte {l : List UInt8} {i : Nat} (h : i < l.length) : ((l.map byteD).getD i default).cells = [.val (.int .u8 (l.getD i 0).toNat)] := by
  rw [List.getD_eq_getElem?_getD, List.getD_eq_getElem?_getD, List.getElem?_map, List.getElem?_eq_getElem h]
  rfl
theorem all_byte (l : List UInt8) : (∀ x ∈ l.map byteD, x.cells.length = 1) = True := by
  refine eq_true ?_
  intro x hx
  obtain ⟨b, _, rfl⟩ := List.mem_map.1 hx
  rfl
theorem all_flat_byte (l : List UInt8) : (∀ x ∈ l.map byteD, x.flat = true) = True := by
  refine eq_true ?_
  intro x hx
  obtain ⟨b, _, rfl⟩ := List.mem_map.1 hx
  rfl
end Go.Proofs.Ytonlehebfeilmaa.K
