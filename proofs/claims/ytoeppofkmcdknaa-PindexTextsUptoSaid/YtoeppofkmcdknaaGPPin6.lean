import Derived.Test.YtoeppofkmcdknaaGPPin5
/- The laws of layer 48 hold. -/
namespace Go.Proofs.Ytoeppofkmcdknaa.K
open Go
set_option linter.unusedVariables false
set_option linter.unusedSimpArgs false
theorem okp_nil : OKP [] := ⟨fun p h => (nomatch h), fun p h => (nomatch h), fun p h => (nomatch h), List.Pairwise.nil⟩
def rI (v : Int) : Row := ⟨⟨[(u8I v), (0 : UInt8), (0 : UInt8), (0 : UInt8), (0 : UInt8), (0 : UInt8), (0 : UInt8), (0 : UInt8), (0 : UInt8), (0 : UInt8), (0 : UInt8), (0 : UInt8), (0 : UInt8), (0 : UInt8), (0 : UInt8), (0 : UInt8), (0 : UInt8), (0 : UInt8), (0 : UInt8), (0 : UInt8), (0 : UInt8), (0 : UInt8), (0 : UInt8), (0 : UInt8), (0 : UInt8), (0 : UInt8), (0 : UInt8), (0 : UInt8), (0 : UInt8), (0 : UInt8), (0 : UInt8), (0 : UInt8)], rfl⟩, 1, []⟩
def aw8 : List (List Row) := [[rI 0, rI 1, rI 2, rI 3, rI 4, rI 5, rI 6, rI 7]]
def aw9 : List (List Row) := [[rI 0, rI 1, rI 2, rI 3, rI 4], [rI 5, rI 6, rI 7, rI 8]]
def awd : List (List Row) := [[rI 1, rI 2, rI 3, rI 4, rI 5, rI 6, rI 7, rI 8]]
def awP : Nat → List (List Row)
  | 0 => []
  | 1 => [[rI 0]]
  | 2 => [[rI 0, rI 1]]
  | 3 => [[rI 0, rI 1, rI 2]]
  | 4 => [[rI 0, rI 1, rI 2, rI 3]]
  | 5 => [[rI 0, rI 1, rI 2, rI 3, rI 4]]
  | 6 => [[rI 0, rI 1, rI 2, rI 3, rI 4, rI 5]]
  | 7 => [[rI 0, rI 1, rI 2, rI 3, rI 4, rI 5, rI 6]]
  | 8 => aw8
  | _ => aw9
theorem rI_ok (v : Int) : okRow (rI v) = true := rfl
theorem aw_step : ∀ i, i < 9 → there (awP i).flatten (rI (i : Int)) = false ∧ putP (awP i) (rI (i : Int)) = awP (i + 1)
  | 0, _ => ⟨by kernel_rfl, by kernel_rfl⟩
  | 1, _ => ⟨by kernel_rfl, by kernel_rfl⟩
  | 2, _ => ⟨by kernel_rfl, by kernel_rfl⟩
  | 3, _ => ⟨by kernel_rfl, by kernel_rfl⟩
  | 4, _ => ⟨by kernel_rfl, by kernel_rfl⟩
  | 5, _ => ⟨by kernel_rfl, by kernel_rfl⟩
  | 6, _ => ⟨by kernel_rfl, by kernel_rfl⟩
  | 7, _ => ⟨by kernel_rfl, by kernel_rfl⟩
  | 8, _ => ⟨by kernel_rfl, by kernel_rfl⟩
  | i + 9, h => absurd h (by omega)
theorem aw_inv : ∀ i, i ≤ 9 → OKP (awP i) ∧ (awP i).flatten.length ≤ i
  | 0, _ => ⟨okp_nil, Nat.le_refl _⟩
  | i + 1, h => by
    obtain ⟨h1, h2⟩ := aw_inv i (by omega)
    rw [← (aw_step i (by omega)).2]
    exact ⟨put_ok h1 (rI_ok _), Nat.le_trans (put_len h1 _) (by omega)⟩
theorem aw_drop : there aw9.flatten (rI 0) = true ∧ dropP aw9 (rI 0) = awd := ⟨by kernel_rfl, by kernel_rfl⟩
theorem aw_get : there aw9.flatten (rI 7) = true := by kernel_rfl
theorem aw_of : (aw9.flatten.filter fun r => r.fSum.1 == (rI 3).fSum.1).length = 1 := by kernel_rfl
theorem awake48_ok : g_law48_awake = some true := by
  have hI : OKP aw9 ∧ aw9.flatten.length ≤ 9 := aw_inv 9 (by omega)
  refine theC_eq (Comes.next (c' := .L1 true ((0 : Nat) : Int) (awP 0)) rfl ?_)
  refine Comes.upto (step := step_law48_awake) (fun i => .L1 true (i : Int) (awP i)) 9 ?_ ?_
  · intro i hi
    obtain ⟨h1, h2⟩ := aw_inv i (by omega)
    obtain ⟨h3, h4⟩ := aw_step i hi
    have hP := Put48_ok h1 (rI (i : Int)) (by omega)
    rw [h3, rI_ok, if_pos (by decide), h4] at hP
    simp only [step_law48_awake]
    rw [decide_eq_true (by omega), cond_true]
    show ((g_pindex_Index_Put ⟨awP i⟩ (rI (i : Int))).bind _) = _
    rw [hP, Option.bind_some, gO_pos (by unfold inI; omega)]
    rfl
  · have hPg := Pages_ok aw9 (by decide)
    obtain ⟨x, hG, hx, _⟩ := Get48_ok hI.1 (rI 7) (by omega)
    rw [aw_get] at hG hx
    obtain ⟨_, hk, _⟩ := hx rfl
    have hxs : x.fSum = (rI 7).fSum := kN_eq.1 hk
    have hT := Text48_ok (P := aw9) (fun p hp => hI.1.may hp) (by decide)
    have hL := Load_put hI.1 (by decide)
    have hD := Drop48_ok hI.1 (rI 0) (by omega)
    rw [if_pos aw_drop.1, aw_drop.2] at hD
    have hA := All48_ok aw9 (by decide) (by decide)
    have hPd := Pages_ok awd (by decide)
    have hO := Of_ok aw9 (rI 3).fSum (by decide) (by decide)
    have d9 : decide ((aw9.flatten.length : Int) = 9) = true := rfl
    have d1 : decide ((((aw9.flatten.filter fun r => r.fSum.1 == (rI 3).fSum.1).length : Nat) : Int) = 1) = true := by rw [aw_of]; rfl
    have p2 : (aw9.map fun p => (p.length : Int)) = [5, 4] := rfl
    have p1 : (awd.map fun p => (p.length : Int)) = [8] := rfl
    have hb : (x.fSum.1 == (rI 7).fSum.1) = true := by rw [hxs]; exact beq_self_eq_true _
    rw [p2] at hPg
    rw [p1] at hPd
    refine Comes.stop ?_
    simp only [step_law48_awake]
    rw [decide_eq_false (by decide), cond_false]
    show ((g_pindex_Index_Pages ⟨aw9⟩).bind _) = _
    rw [hPg, Option.bind_some]
    show ((g_pindex_Index_Get ⟨aw9⟩ (rI 7).fSum (rI 7).fEpoch).bind _) = _
    rw [hG, Option.bind_some]
    show ((g_pindex_Index_Text ⟨aw9⟩).bind _) = _
    rw [hT, Option.bind_some, hL, Option.bind_some]
    show ((g_pindex_Index_Drop ⟨aw9⟩ (rI 0).fSum (rI 0).fEpoch).bind _) = _
    rw [hD, Option.bind_some, gO_pos (fun _ => by decide), gO_pos (fun _ => by decide)]
    have c8 : ((((((((true && (decide ((([5, 4] : List Int).length : Int) = (2 : Int)))) && (decide ((idx ([5, 4] : List Int) (0 : Int)) = (5 : Int)))) && (decide ((idx ([5, 4] : List Int) (1 : Int)) = (4 : Int)))) && true) && (x.fSum.1 == (rI 7).fSum.1)) && (decide ((0 : Int) = (0 : Int)))) && (decide ((0 : Int) = (0 : Int)))) == true) = true := by rw [hb]; rfl
    have c7 : (((((((true && (decide ((([5, 4] : List Int).length : Int) = (2 : Int)))) && (decide ((idx ([5, 4] : List Int) (0 : Int)) = (5 : Int)))) && (decide ((idx ([5, 4] : List Int) (1 : Int)) = (4 : Int)))) && true) && (x.fSum.1 == (rI 7).fSum.1)) && (decide ((0 : Int) = (0 : Int)))) && (decide ((0 : Int) = (0 : Int)))) = true := by rw [hb]; rfl
    show ((bif ((((((((true && (decide ((([5, 4] : List Int).length : Int) = (2 : Int)))) && (decide ((idx ([5, 4] : List Int) (0 : Int)) = (5 : Int)))) && (decide ((idx ([5, 4] : List Int) (1 : Int)) = (4 : Int)))) && true) && (x.fSum.1 == (rI 7).fSum.1)) && (decide ((0 : Int) = (0 : Int)))) && (decide ((0 : Int) = (0 : Int)))) == true) then g_pindex_Index_All ⟨aw9⟩ else some default).bind fun (x_18 : List Row) =>
      (bif ((((((((((true && (decide ((([5, 4] : List Int).length : Int) = (2 : Int)))) && (decide ((idx ([5, 4] : List Int) (0 : Int)) = (5 : Int)))) && (decide ((idx ([5, 4] : List Int) (1 : Int)) = (4 : Int)))) && true) && (x.fSum.1 == (rI 7).fSum.1)) && (decide ((0 : Int) = (0 : Int)))) && (decide ((0 : Int) = (0 : Int)))) && (decide ((x_18.length : Int) = (9 : Int)))) && true) == true) then g_pindex_Index_Pages ⟨awd⟩ else some default).bind fun (x_20 : List Int) =>
      (bif (((((((((((true && (decide ((([5, 4] : List Int).length : Int) = (2 : Int)))) && (decide ((idx ([5, 4] : List Int) (0 : Int)) = (5 : Int)))) && (decide ((idx ([5, 4] : List Int) (1 : Int)) = (4 : Int)))) && true) && (x.fSum.1 == (rI 7).fSum.1)) && (decide ((0 : Int) = (0 : Int)))) && (decide ((0 : Int) = (0 : Int)))) && (decide ((x_18.length : Int) = (9 : Int)))) && true) && (decide ((x_20.length : Int) = (1 : Int)))) == true) then g_pindex_Index_Of ⟨aw9⟩ (rI 3).fSum else some default).bind fun (x_22 : List Row) =>
      some (.inr (((((((((((true && (decide ((([5, 4] : List Int).length : Int) = (2 : Int)))) && (decide ((idx ([5, 4] : List Int) (0 : Int)) = (5 : Int)))) && (decide ((idx ([5, 4] : List Int) (1 : Int)) = (4 : Int)))) && true) && (x.fSum.1 == (rI 7).fSum.1)) && (decide ((0 : Int) = (0 : Int)))) && (decide ((0 : Int) = (0 : Int)))) && (decide ((x_18.length : Int) = (9 : Int)))) && true) && (decide ((x_20.length : Int) = (1 : Int)))) && (decide ((x_22.length : Int) = (1 : Int)))))) = some (.inr true : C_law48_awake ⊕ Bool)
    rw [c7, beq_self_eq_true, cond_true, hA, Option.bind_some, d9, Bool.and_self, Bool.and_self, beq_self_eq_true, cond_true, hPd, Option.bind_some, show decide ((([8] : List Int).length : Int) = 1) = true from rfl, Bool.and_self, beq_self_eq_true, cond_true, hO, Option.bind_some, d1]
    rfl
end Go.Proofs.Ytoeppofkmcdknaa.K
