/- The laws of layer 48: what they reckon. -/
import Derived.Test.YtoeppofkmcdknaaDWR47
import Derived.KernelRfl
namespace Go.Proofs.Ytoeppofkmcdknaa.K
open Go Go.RowKit
set_option linter.unusedSimpArgs false
set_option linter.unusedVariables false
set_option maxRecDepth 20000
set_option maxHeartbeats 4000000
namespace TT
theorem bldA_35 : bldA Try.prog 35 = some ([Value.int IntKind.u8 0, Value.int IntKind.u8 0, Value.int IntKind.u8 0, Value.int IntKind.u8 0, Value.int IntKind.u8 0, Value.int IntKind.u8 0, Value.int IntKind.u8 0, Value.int IntKind.u8 0, Value.int IntKind.u8 0, Value.int IntKind.u8 0, Value.int IntKind.u8 0, Value.int IntKind.u8 0, Value.int IntKind.u8 0, Value.int IntKind.u8 0, Value.int IntKind.u8 0, Value.int IntKind.u8 0, Value.int IntKind.u8 0, Value.int IntKind.u8 0, Value.int IntKind.u8 0, Value.int IntKind.u8 0, Value.int IntKind.u8 0, Value.int IntKind.u8 0, Value.int IntKind.u8 0, Value.int IntKind.u8 0, Value.int IntKind.u8 0, Value.int IntKind.u8 0, Value.int IntKind.u8 0, Value.int IntKind.u8 0, Value.int IntKind.u8 0, Value.int IntKind.u8 0, Value.int IntKind.u8 0, Value.int IntKind.u8 0], .inr 1) := by kernel_rfl
theorem enters_49 : entersB Try.prog 49 = true := by kernel_rfl
theorem enters_51 : entersB Try.prog 51 = true := by kernel_rfl
theorem enters_53 : entersB Try.prog 53 = true := by kernel_rfl
theorem enters_55 : entersB Try.prog 55 = true := by kernel_rfl
theorem enters_58 : entersB Try.prog 58 = true := by kernel_rfl
theorem enters_59 : entersB Try.prog 59 = true := by kernel_rfl
theorem enters_60 : entersB Try.prog 60 = true := by kernel_rfl
theorem enters_62 : entersB Try.prog 62 = true := by kernel_rfl
theorem res_11 : Try.f11.results.toList = [.tmp 2] := rfl
theorem res_49 : Try.f49.results.toList = [.tmp 0] := rfl
end TT
inductive C_law48_awake where
  | S
  | L1 (v2 : Bool) (v3 : Int) (v1_0 : (List (List Row)))
noncomputable def step_law48_awake  : C_law48_awake → Option (C_law48_awake ⊕ Bool)
  | .S =>
    some (.inl (.L1 true (0) ([] : (List (List Row)))))
  | .L1 v2 v3 v1_0 =>
    (bif (decide (v3 < (9 : Int))) then
    ((g_pindex_Index_Put (⟨v1_0⟩ : Index) (⟨(⟨[(u8I v3), (0 : UInt8), (0 : UInt8), (0 : UInt8), (0 : UInt8), (0 : UInt8), (0 : UInt8), (0 : UInt8), (0 : UInt8), (0 : UInt8), (0 : UInt8), (0 : UInt8), (0 : UInt8), (0 : UInt8), (0 : UInt8), (0 : UInt8), (0 : UInt8), (0 : UInt8), (0 : UInt8), (0 : UInt8), (0 : UInt8), (0 : UInt8), (0 : UInt8), (0 : UInt8), (0 : UInt8), (0 : UInt8), (0 : UInt8), (0 : UInt8), (0 : UInt8), (0 : UInt8), (0 : UInt8), (0 : UInt8)], rfl⟩ : (Arr 32 UInt8)), 1, ([] : List UInt8)⟩ : Row)).bind fun (x_3 : (Index × Bool)) =>
    gO (inI (v3 + (1 : Int))) (
    some (.inl (.L1 (v2 && x_3.2) (v3 + (1 : Int)) ((x_3.1).fpages)))))
    else
    ((g_pindex_Index_Pages (⟨v1_0⟩ : Index)).bind fun (x_6 : (List Int)) =>
    ((g_pindex_Index_Get (⟨v1_0⟩ : Index) (⟨[(7 : UInt8), (0 : UInt8), (0 : UInt8), (0 : UInt8), (0 : UInt8), (0 : UInt8), (0 : UInt8), (0 : UInt8), (0 : UInt8), (0 : UInt8), (0 : UInt8), (0 : UInt8), (0 : UInt8), (0 : UInt8), (0 : UInt8), (0 : UInt8), (0 : UInt8), (0 : UInt8), (0 : UInt8), (0 : UInt8), (0 : UInt8), (0 : UInt8), (0 : UInt8), (0 : UInt8), (0 : UInt8), (0 : UInt8), (0 : UInt8), (0 : UInt8), (0 : UInt8), (0 : UInt8), (0 : UInt8), (0 : UInt8)], rfl⟩ : (Arr 32 UInt8)) (1)).bind fun (x_8 : (Row × Bool)) =>
    ((g_pindex_Index_Text (⟨v1_0⟩ : Index)).bind fun (x_10 : ((List UInt8) × Int)) =>
    ((g_pindex_Load (x_10.1)).bind fun (x_12 : (Index × Int)) =>
    ((g_pindex_Index_Drop (⟨v1_0⟩ : Index) (⟨[(0 : UInt8), (0 : UInt8), (0 : UInt8), (0 : UInt8), (0 : UInt8), (0 : UInt8), (0 : UInt8), (0 : UInt8), (0 : UInt8), (0 : UInt8), (0 : UInt8), (0 : UInt8), (0 : UInt8), (0 : UInt8), (0 : UInt8), (0 : UInt8), (0 : UInt8), (0 : UInt8), (0 : UInt8), (0 : UInt8), (0 : UInt8), (0 : UInt8), (0 : UInt8), (0 : UInt8), (0 : UInt8), (0 : UInt8), (0 : UInt8), (0 : UInt8), (0 : UInt8), (0 : UInt8), (0 : UInt8), (0 : UInt8)], rfl⟩ : (Arr 32 UInt8)) (1)).bind fun (x_14 : (Index × Bool)) =>
    gO (((v2 && (decide ((x_6.length : Int) = (2 : Int)))) == true) = true → 0 ≤ (0 : Int) ∧ (0 : Int) < (x_6.length : Int)) (
    gO ((((v2 && (decide ((x_6.length : Int) = (2 : Int)))) && (decide ((idx x_6 (0 : Int)) = (5 : Int)))) == true) = true → 0 ≤ (1 : Int) ∧ (1 : Int) < (x_6.length : Int)) (
    ((bif ((((((((v2 && (decide ((x_6.length : Int) = (2 : Int)))) && (decide ((idx x_6 (0 : Int)) = (5 : Int)))) && (decide ((idx x_6 (1 : Int)) = (4 : Int)))) && x_8.2) && (((x_8.1).fSum).1 == (⟨[(7 : UInt8), (0 : UInt8), (0 : UInt8), (0 : UInt8), (0 : UInt8), (0 : UInt8), (0 : UInt8), (0 : UInt8), (0 : UInt8), (0 : UInt8), (0 : UInt8), (0 : UInt8), (0 : UInt8), (0 : UInt8), (0 : UInt8), (0 : UInt8), (0 : UInt8), (0 : UInt8), (0 : UInt8), (0 : UInt8), (0 : UInt8), (0 : UInt8), (0 : UInt8), (0 : UInt8), (0 : UInt8), (0 : UInt8), (0 : UInt8), (0 : UInt8), (0 : UInt8), (0 : UInt8), (0 : UInt8), (0 : UInt8)], rfl⟩ : (Arr 32 UInt8)).1)) && (decide ((x_10.2) = (0 : Int)))) && (decide ((x_12.2) = (0 : Int)))) == true) then g_pindex_Index_All (x_12.1) else some default).bind fun (x_18 : (List Row)) =>
    ((bif ((((((((((v2 && (decide ((x_6.length : Int) = (2 : Int)))) && (decide ((idx x_6 (0 : Int)) = (5 : Int)))) && (decide ((idx x_6 (1 : Int)) = (4 : Int)))) && x_8.2) && (((x_8.1).fSum).1 == (⟨[(7 : UInt8), (0 : UInt8), (0 : UInt8), (0 : UInt8), (0 : UInt8), (0 : UInt8), (0 : UInt8), (0 : UInt8), (0 : UInt8), (0 : UInt8), (0 : UInt8), (0 : UInt8), (0 : UInt8), (0 : UInt8), (0 : UInt8), (0 : UInt8), (0 : UInt8), (0 : UInt8), (0 : UInt8), (0 : UInt8), (0 : UInt8), (0 : UInt8), (0 : UInt8), (0 : UInt8), (0 : UInt8), (0 : UInt8), (0 : UInt8), (0 : UInt8), (0 : UInt8), (0 : UInt8), (0 : UInt8), (0 : UInt8)], rfl⟩ : (Arr 32 UInt8)).1)) && (decide ((x_10.2) = (0 : Int)))) && (decide ((x_12.2) = (0 : Int)))) && (decide ((x_18.length : Int) = (9 : Int)))) && x_14.2) == true) then g_pindex_Index_Pages (x_14.1) else some default).bind fun (x_20 : (List Int)) =>
    ((bif (((((((((((v2 && (decide ((x_6.length : Int) = (2 : Int)))) && (decide ((idx x_6 (0 : Int)) = (5 : Int)))) && (decide ((idx x_6 (1 : Int)) = (4 : Int)))) && x_8.2) && (((x_8.1).fSum).1 == (⟨[(7 : UInt8), (0 : UInt8), (0 : UInt8), (0 : UInt8), (0 : UInt8), (0 : UInt8), (0 : UInt8), (0 : UInt8), (0 : UInt8), (0 : UInt8), (0 : UInt8), (0 : UInt8), (0 : UInt8), (0 : UInt8), (0 : UInt8), (0 : UInt8), (0 : UInt8), (0 : UInt8), (0 : UInt8), (0 : UInt8), (0 : UInt8), (0 : UInt8), (0 : UInt8), (0 : UInt8), (0 : UInt8), (0 : UInt8), (0 : UInt8), (0 : UInt8), (0 : UInt8), (0 : UInt8), (0 : UInt8), (0 : UInt8)], rfl⟩ : (Arr 32 UInt8)).1)) && (decide ((x_10.2) = (0 : Int)))) && (decide ((x_12.2) = (0 : Int)))) && (decide ((x_18.length : Int) = (9 : Int)))) && x_14.2) && (decide ((x_20.length : Int) = (1 : Int)))) == true) then g_pindex_Index_Of (⟨v1_0⟩ : Index) (⟨[(3 : UInt8), (0 : UInt8), (0 : UInt8), (0 : UInt8), (0 : UInt8), (0 : UInt8), (0 : UInt8), (0 : UInt8), (0 : UInt8), (0 : UInt8), (0 : UInt8), (0 : UInt8), (0 : UInt8), (0 : UInt8), (0 : UInt8), (0 : UInt8), (0 : UInt8), (0 : UInt8), (0 : UInt8), (0 : UInt8), (0 : UInt8), (0 : UInt8), (0 : UInt8), (0 : UInt8), (0 : UInt8), (0 : UInt8), (0 : UInt8), (0 : UInt8), (0 : UInt8), (0 : UInt8), (0 : UInt8), (0 : UInt8)], rfl⟩ : (Arr 32 UInt8)) else some default).bind fun (x_22 : (List Row)) =>
    some (.inr (((((((((((v2 && (decide ((x_6.length : Int) = (2 : Int)))) && (decide ((idx x_6 (0 : Int)) = (5 : Int)))) && (decide ((idx x_6 (1 : Int)) = (4 : Int)))) && x_8.2) && (((x_8.1).fSum).1 == (⟨[(7 : UInt8), (0 : UInt8), (0 : UInt8), (0 : UInt8), (0 : UInt8), (0 : UInt8), (0 : UInt8), (0 : UInt8), (0 : UInt8), (0 : UInt8), (0 : UInt8), (0 : UInt8), (0 : UInt8), (0 : UInt8), (0 : UInt8), (0 : UInt8), (0 : UInt8), (0 : UInt8), (0 : UInt8), (0 : UInt8), (0 : UInt8), (0 : UInt8), (0 : UInt8), (0 : UInt8), (0 : UInt8), (0 : UInt8), (0 : UInt8), (0 : UInt8), (0 : UInt8), (0 : UInt8), (0 : UInt8), (0 : UInt8)], rfl⟩ : (Arr 32 UInt8)).1)) && (decide ((x_10.2) = (0 : Int)))) && (decide ((x_12.2) = (0 : Int)))) && (decide ((x_18.length : Int) = (9 : Int)))) && x_14.2) && (decide ((x_20.length : Int) = (1 : Int)))) && (decide ((x_22.length : Int) = (1 : Int))))))))))))))))
noncomputable def g_law48_awake  : Option Bool := theC (step_law48_awake ) .S
theorem sim_law48_awake  (r : Bool) (h : g_law48_awake  = some r) : Fun Try.prog 49 [] (.val (.bool r)) := by
  refine Fun.of_bodyQ Try.func49 rfl (by simp [Try.ntmps49]) ?_
  rw [Try.ntmps49, TT.res_49]
  refine QW.view (s' := ⟨tab [], tabH [], 0, []⟩) (View.init (by rfl)) zL ?_
  replace h := theC_get h
  obtain ⟨_, h⟩ := h
  obtain ⟨k_0, rfl, h9⟩ := run_succ h; replace h := h9; clear h9; rw [step_law48_awake] at h
  refine sR ?_
  refine xz 0 (pB false) ?_
  refine sR ?_
  refine xs 1 rfl (sf_alloc (l := [.full (([] : (List (List Row))).map (eL eRow))]) rfl TT.zeroA_71 rfl rfl ?_)
  refine XK.nz ?_
  refine sR ?_
  refine xz 2 (pB true) ?_
  refine QW.seq ?_
  refine sR ?_
  refine xz 3 (pI (0)) ?_
  refine QW.block ?_
  refine QW.loop (fun k σ => ∃ v2 : Bool, ∃ v3 : Int, ∃ v1_0 : (List (List Row)), k ≤ k_0 ∧ run step_law48_awake k (.L1 v2 v3 v1_0) = some r ∧ σ = ⟨tab [(1, .vptr 0 0), (2, pB v2), (3, pI v3)], tabH [.var [.d (.slice (v1_0.map (eL eRow)))]], 1, []⟩) k_0 zL ⟨⟨tab [(1, .vptr 0 0), (2, pB true), (3, pI (0))], tabH [.var [.d (.slice (([] : (List (List Row))).map (eL eRow)))]], 1, []⟩, View.trans (View.castV 0 0 rfl rfl rfl zL) (View.mk 1 [0] _ _ _ rfl rfl (by decide) (iC (iC (iC trivial))) (And.intro rfl trivial) rfl zL rfl), true, 0, ([] : (List (List Row))), Nat.le_refl _, jG h, rfl⟩ ?_
  rintro k_1s _ ⟨v2, v3, v1_0, k_1h, h, rfl⟩
  obtain ⟨k_1, rfl, h9⟩ := run_succ h; replace h := h9; clear h9; rw [step_law48_awake] at h
  refine QW.seq ?_
  refine sR ?_
  refine xm 15 (pI v3) ?_
  refine xs 16 rfl (sf_lss (a := v3) (b := (9 : Int)) rfl rfl rfl ?_)
  refine XK.nz ?_
  refine QW.cond (t := (decide (v3 < (9 : Int)))) rfl zL (fun hb_2 => ?_) (fun hb_2 => ?_)
  · replace h := bGT h hb_2
    refine QW.skip zL (nrm ?_)
    refine QW.seq ?_
    refine QW.block ?_
    refine sR ?_
    refine XK.as (some 20) rfl rfl (sf_ldV (v := .agg [.d (.slice (v1_0.map (eL eRow)))]) rfl TT.tyA_71 rfl rfl ⟨⟨by simp, by simp⟩, rfl⟩ ⟨.d (.agg (cIndex (⟨v1_0⟩ : Index))), (Imp.toD rfl), ?_⟩)
    refine xm 21 (pI v3) ?_
    refine xs 22 rfl (sf_toU8 (n := v3) rfl TT.under_3 TT.under_5 rfl ?_)
    refine XK.as (some 23) rfl rfl (sf_build (v := .agg [.d (.val (.int .u8 ((u8I v3).toNat : Int))), .d (.val (.int .u8 ((0 : UInt8).toNat : Int))), .d (.val (.int .u8 ((0 : UInt8).toNat : Int))), .d (.val (.int .u8 ((0 : UInt8).toNat : Int))), .d (.val (.int .u8 ((0 : UInt8).toNat : Int))), .d (.val (.int .u8 ((0 : UInt8).toNat : Int))), .d (.val (.int .u8 ((0 : UInt8).toNat : Int))), .d (.val (.int .u8 ((0 : UInt8).toNat : Int))), .d (.val (.int .u8 ((0 : UInt8).toNat : Int))), .d (.val (.int .u8 ((0 : UInt8).toNat : Int))), .d (.val (.int .u8 ((0 : UInt8).toNat : Int))), .d (.val (.int .u8 ((0 : UInt8).toNat : Int))), .d (.val (.int .u8 ((0 : UInt8).toNat : Int))), .d (.val (.int .u8 ((0 : UInt8).toNat : Int))), .d (.val (.int .u8 ((0 : UInt8).toNat : Int))), .d (.val (.int .u8 ((0 : UInt8).toNat : Int))), .d (.val (.int .u8 ((0 : UInt8).toNat : Int))), .d (.val (.int .u8 ((0 : UInt8).toNat : Int))), .d (.val (.int .u8 ((0 : UInt8).toNat : Int))), .d (.val (.int .u8 ((0 : UInt8).toNat : Int))), .d (.val (.int .u8 ((0 : UInt8).toNat : Int))), .d (.val (.int .u8 ((0 : UInt8).toNat : Int))), .d (.val (.int .u8 ((0 : UInt8).toNat : Int))), .d (.val (.int .u8 ((0 : UInt8).toNat : Int))), .d (.val (.int .u8 ((0 : UInt8).toNat : Int))), .d (.val (.int .u8 ((0 : UInt8).toNat : Int))), .d (.val (.int .u8 ((0 : UInt8).toNat : Int))), .d (.val (.int .u8 ((0 : UInt8).toNat : Int))), .d (.val (.int .u8 ((0 : UInt8).toNat : Int))), .d (.val (.int .u8 ((0 : UInt8).toNat : Int))), .d (.val (.int .u8 ((0 : UInt8).toNat : Int))), .d (.val (.int .u8 ((0 : UInt8).toNat : Int)))]) rfl (by rw [TT.bldA_35]; simp [buildP, fillP, placeOf, partsQ, evP, PV.solid, PV.cellsP, Value.oneCell', spl, cellV, ofVal, List.all, putS_at, tab, unS, unT, asCond, unC]) (by rw [TT.bldA_35]; rfl) ⟨.d (.agg ((⟨[(u8I v3), (0 : UInt8), (0 : UInt8), (0 : UInt8), (0 : UInt8), (0 : UInt8), (0 : UInt8), (0 : UInt8), (0 : UInt8), (0 : UInt8), (0 : UInt8), (0 : UInt8), (0 : UInt8), (0 : UInt8), (0 : UInt8), (0 : UInt8), (0 : UInt8), (0 : UInt8), (0 : UInt8), (0 : UInt8), (0 : UInt8), (0 : UInt8), (0 : UInt8), (0 : UInt8), (0 : UInt8), (0 : UInt8), (0 : UInt8), (0 : UInt8), (0 : UInt8), (0 : UInt8), (0 : UInt8), (0 : UInt8)], rfl⟩ : (Arr 32 UInt8)).1.map byteD)), (Imp.toD rfl), ?_⟩)
    refine XK.as (some 24) rfl rfl (sf_bld (v := .agg ((cRow (⟨(⟨[(u8I v3), (0 : UInt8), (0 : UInt8), (0 : UInt8), (0 : UInt8), (0 : UInt8), (0 : UInt8), (0 : UInt8), (0 : UInt8), (0 : UInt8), (0 : UInt8), (0 : UInt8), (0 : UInt8), (0 : UInt8), (0 : UInt8), (0 : UInt8), (0 : UInt8), (0 : UInt8), (0 : UInt8), (0 : UInt8), (0 : UInt8), (0 : UInt8), (0 : UInt8), (0 : UInt8), (0 : UInt8), (0 : UInt8), (0 : UInt8), (0 : UInt8), (0 : UInt8), (0 : UInt8), (0 : UInt8), (0 : UInt8)], rfl⟩ : (Arr 32 UInt8)), 1, ([] : List UInt8)⟩ : Row)).map .d)) rfl TT.bldA_37 (bld_Row_0_1 (⟨[(u8I v3), (0 : UInt8), (0 : UInt8), (0 : UInt8), (0 : UInt8), (0 : UInt8), (0 : UInt8), (0 : UInt8), (0 : UInt8), (0 : UInt8), (0 : UInt8), (0 : UInt8), (0 : UInt8), (0 : UInt8), (0 : UInt8), (0 : UInt8), (0 : UInt8), (0 : UInt8), (0 : UInt8), (0 : UInt8), (0 : UInt8), (0 : UInt8), (0 : UInt8), (0 : UInt8), (0 : UInt8), (0 : UInt8), (0 : UInt8), (0 : UInt8), (0 : UInt8), (0 : UInt8), (0 : UInt8), (0 : UInt8)], rfl⟩ : (Arr 32 UInt8)) (1)) ⟨.d (.agg (cRow (⟨(⟨[(u8I v3), (0 : UInt8), (0 : UInt8), (0 : UInt8), (0 : UInt8), (0 : UInt8), (0 : UInt8), (0 : UInt8), (0 : UInt8), (0 : UInt8), (0 : UInt8), (0 : UInt8), (0 : UInt8), (0 : UInt8), (0 : UInt8), (0 : UInt8), (0 : UInt8), (0 : UInt8), (0 : UInt8), (0 : UInt8), (0 : UInt8), (0 : UInt8), (0 : UInt8), (0 : UInt8), (0 : UInt8), (0 : UInt8), (0 : UInt8), (0 : UInt8), (0 : UInt8), (0 : UInt8), (0 : UInt8), (0 : UInt8)], rfl⟩ : (Arr 32 UInt8)), 1, ([] : List UInt8)⟩ : Row))), imp_arr, ?_⟩)
    obtain ⟨x_3, hx_4, h⟩ := bG h
    refine xs 25 rfl (sf_call rfl rfl TT.enters_53 rfl (sim_pindex_Index_Put (⟨v1_0⟩ : Index) (⟨(⟨[(u8I v3), (0 : UInt8), (0 : UInt8), (0 : UInt8), (0 : UInt8), (0 : UInt8), (0 : UInt8), (0 : UInt8), (0 : UInt8), (0 : UInt8), (0 : UInt8), (0 : UInt8), (0 : UInt8), (0 : UInt8), (0 : UInt8), (0 : UInt8), (0 : UInt8), (0 : UInt8), (0 : UInt8), (0 : UInt8), (0 : UInt8), (0 : UInt8), (0 : UInt8), (0 : UInt8), (0 : UInt8), (0 : UInt8), (0 : UInt8), (0 : UInt8), (0 : UInt8), (0 : UInt8), (0 : UInt8), (0 : UInt8)], rfl⟩ : (Arr 32 UInt8)), 1, ([] : List UInt8)⟩ : Row) _ hx_4) ?_)
    refine xm 19 (.d (.tuple [.agg (cIndex (x_3.1)), .val (.bool (x_3.2))])) ?_
    refine xs 26 rfl (sf_extract rfl rfl rfl ?_)
    refine xs 27 rfl (sf_extract rfl rfl rfl ?_)
    refine xs 4 rfl (sf_alloc (l := [.full (([] : (List (List Row))).map (eL eRow))]) rfl TT.zeroA_71 rfl rfl ?_)
    refine XK.st none rfl rfl (sf_stV (l' := [.d (.slice (((x_3.1).fpages).map (eL eRow)))]) rfl TT.tyA_71 rfl rfl rfl rfl rfl rfl (by simp) rfl ?_)
    refine xz 5 (pB (x_3.2)) ?_
    refine sR ?_
    refine xm 28 (pB v2) ?_
    refine xm 29 (pB v2) ?_
    refine xg 30 (pB (x_3.2)) rfl rfl (fun hg => sf_move (v := pB (x_3.2)) rfl rfl g3) ?_
    refine xs 31 rfl (sf_pickA rfl rfl rfl rfl (fun hb => by rw [hb]; rfl) (fun _ => rfl) ?_)
    refine xz 2 (pB (v2 && x_3.2)) ?_
    refine QW.view (s' := ⟨tab [(1, .vptr 0 0), (2, pB (v2 && x_3.2)), (3, pI v3), (4, .vptr 1 0)], tabH [.var [.d (.slice (v1_0.map (eL eRow)))], .var [.d (.slice (((x_3.1).fpages).map (eL eRow)))]], 2, []⟩) (View.mk 2 [0, 1] _ _ _ rfl rfl (by decide) (iC (iC (iC (iC trivial)))) (And.intro rfl (And.intro rfl trivial)) rfl zL rfl) zL ?_
    refine rG ?_
    refine XK.as (some 32) rfl rfl (sf_ldV (v := .agg [.d (.slice (((x_3.1).fpages).map (eL eRow)))]) rfl TT.tyA_71 rfl rfl ⟨⟨by simp, by simp⟩, rfl⟩ ⟨.d (.agg (cIndex (x_3.1))), (Imp.toD rfl), ?_⟩)
    refine XK.st none rfl rfl (sf_stV (l' := [.d (.slice (((x_3.1).fpages).map (eL eRow)))]) rfl TT.tyA_71 rfl rfl rfl rfl rfl rfl (by simp) rfl ?_)
    refine XK.nil (blN (nrm ?_))
    refine rG ?_
    refine xm 17 (pI v3) ?_
    obtain ⟨c_5, h⟩ := gG h
    refine xs 18 rfl (sf_add (a := v3) (b := (1 : Int)) rfl rfl rfl c_5 ?_)
    refine xz 3 (pI (v3 + (1 : Int))) ?_
    exact ⟨k_1, by omega, ⟨tab [(1, .vptr 0 0), (2, pB (v2 && x_3.2)), (3, pI (v3 + (1 : Int)))], tabH [.var [.d (.slice (((x_3.1).fpages).map (eL eRow)))]], 1, []⟩, View.mk 1 [0] _ _ _ rfl rfl (by decide) (iC (iC (iC trivial))) (And.intro rfl trivial) rfl zL rfl, (v2 && x_3.2), (v3 + (1 : Int)), (x_3.1).fpages, by omega, jG h, rfl⟩
  · replace h := bGF h hb_2
    refine QW.exit zL (thX (thX (exE (nrm ?_))))
    refine sR ?_
    refine XK.as (some 33) rfl rfl (sf_ldV (v := .agg [.d (.slice (v1_0.map (eL eRow)))]) rfl TT.tyA_71 rfl rfl ⟨⟨by simp, by simp⟩, rfl⟩ ⟨.d (.agg (cIndex (⟨v1_0⟩ : Index))), (Imp.toD rfl), ?_⟩)
    obtain ⟨x_6, hx_7, h⟩ := bG h
    refine xs 34 rfl (sf_call rfl rfl TT.enters_55 rfl (sim_pindex_Index_Pages (⟨v1_0⟩ : Index) _ hx_7) ?_)
    refine xz 6 (.d (.slice (x_6.map eI))) ?_
    refine sR ?_
    refine XK.as (some 36) rfl rfl (sf_ldV (v := .agg [.d (.slice (v1_0.map (eL eRow)))]) rfl TT.tyA_71 rfl rfl ⟨⟨by simp, by simp⟩, rfl⟩ ⟨.d (.agg (cIndex (⟨v1_0⟩ : Index))), (Imp.toD rfl), ?_⟩)
    refine XK.as (some 37) rfl rfl (sf_build (v := .agg [.d (.val (.int .u8 ((7 : UInt8).toNat : Int))), .d (.val (.int .u8 ((0 : UInt8).toNat : Int))), .d (.val (.int .u8 ((0 : UInt8).toNat : Int))), .d (.val (.int .u8 ((0 : UInt8).toNat : Int))), .d (.val (.int .u8 ((0 : UInt8).toNat : Int))), .d (.val (.int .u8 ((0 : UInt8).toNat : Int))), .d (.val (.int .u8 ((0 : UInt8).toNat : Int))), .d (.val (.int .u8 ((0 : UInt8).toNat : Int))), .d (.val (.int .u8 ((0 : UInt8).toNat : Int))), .d (.val (.int .u8 ((0 : UInt8).toNat : Int))), .d (.val (.int .u8 ((0 : UInt8).toNat : Int))), .d (.val (.int .u8 ((0 : UInt8).toNat : Int))), .d (.val (.int .u8 ((0 : UInt8).toNat : Int))), .d (.val (.int .u8 ((0 : UInt8).toNat : Int))), .d (.val (.int .u8 ((0 : UInt8).toNat : Int))), .d (.val (.int .u8 ((0 : UInt8).toNat : Int))), .d (.val (.int .u8 ((0 : UInt8).toNat : Int))), .d (.val (.int .u8 ((0 : UInt8).toNat : Int))), .d (.val (.int .u8 ((0 : UInt8).toNat : Int))), .d (.val (.int .u8 ((0 : UInt8).toNat : Int))), .d (.val (.int .u8 ((0 : UInt8).toNat : Int))), .d (.val (.int .u8 ((0 : UInt8).toNat : Int))), .d (.val (.int .u8 ((0 : UInt8).toNat : Int))), .d (.val (.int .u8 ((0 : UInt8).toNat : Int))), .d (.val (.int .u8 ((0 : UInt8).toNat : Int))), .d (.val (.int .u8 ((0 : UInt8).toNat : Int))), .d (.val (.int .u8 ((0 : UInt8).toNat : Int))), .d (.val (.int .u8 ((0 : UInt8).toNat : Int))), .d (.val (.int .u8 ((0 : UInt8).toNat : Int))), .d (.val (.int .u8 ((0 : UInt8).toNat : Int))), .d (.val (.int .u8 ((0 : UInt8).toNat : Int))), .d (.val (.int .u8 ((0 : UInt8).toNat : Int)))]) rfl (by rw [TT.bldA_35]; simp [buildP, fillP, placeOf, partsQ, evP, PV.solid, PV.cellsP, Value.oneCell', spl, cellV, ofVal, List.all, putS_at, tab, unS, unT, asCond, unC]) (by rw [TT.bldA_35]; rfl) ⟨.d (.agg ((⟨[(7 : UInt8), (0 : UInt8), (0 : UInt8), (0 : UInt8), (0 : UInt8), (0 : UInt8), (0 : UInt8), (0 : UInt8), (0 : UInt8), (0 : UInt8), (0 : UInt8), (0 : UInt8), (0 : UInt8), (0 : UInt8), (0 : UInt8), (0 : UInt8), (0 : UInt8), (0 : UInt8), (0 : UInt8), (0 : UInt8), (0 : UInt8), (0 : UInt8), (0 : UInt8), (0 : UInt8), (0 : UInt8), (0 : UInt8), (0 : UInt8), (0 : UInt8), (0 : UInt8), (0 : UInt8), (0 : UInt8), (0 : UInt8)], rfl⟩ : (Arr 32 UInt8)).1.map byteD)), (Imp.toD rfl), ?_⟩)
    obtain ⟨x_8, hx_9, h⟩ := bG h
    refine xs 38 rfl (sf_call rfl rfl TT.enters_58 rfl (sim_pindex_Index_Get (⟨v1_0⟩ : Index) (⟨[(7 : UInt8), (0 : UInt8), (0 : UInt8), (0 : UInt8), (0 : UInt8), (0 : UInt8), (0 : UInt8), (0 : UInt8), (0 : UInt8), (0 : UInt8), (0 : UInt8), (0 : UInt8), (0 : UInt8), (0 : UInt8), (0 : UInt8), (0 : UInt8), (0 : UInt8), (0 : UInt8), (0 : UInt8), (0 : UInt8), (0 : UInt8), (0 : UInt8), (0 : UInt8), (0 : UInt8), (0 : UInt8), (0 : UInt8), (0 : UInt8), (0 : UInt8), (0 : UInt8), (0 : UInt8), (0 : UInt8), (0 : UInt8)], rfl⟩ : (Arr 32 UInt8)) (1) _ hx_9) ?_)
    refine xm 35 (.d (.tuple [.agg (cRow (x_8.1)), .val (.bool (x_8.2))])) ?_
    refine xs 39 rfl (sf_extract rfl rfl rfl ?_)
    refine xs 40 rfl (sf_extract rfl rfl rfl ?_)
    refine xs 7 rfl (sf_alloc (l := ((cRow (⟨(Arr.rep 32 (0 : UInt8)), (0 : Int), ([] : (List UInt8))⟩ : Row)).map .d)) rfl TT.zeroA_37 rfl rfl ?_)
    refine XK.st none rfl rfl (sf_stV (l' := ((cRow (x_8.1)).map .d)) rfl TT.tyA_37 rfl rfl rfl rfl rfl (len_dd (lay_Row.len _)) (le_dd (lay_Row.len _)) (spl_dd ((lay_Row.len _).trans (lay_Row.len _).symm)) ?_)
    refine xz 8 (pB (x_8.2)) ?_
    refine sR ?_
    refine XK.as (some 42) rfl rfl (sf_ldV (v := .agg [.d (.slice (v1_0.map (eL eRow)))]) rfl TT.tyA_71 rfl rfl ⟨⟨by simp, by simp⟩, rfl⟩ ⟨.d (.agg (cIndex (⟨v1_0⟩ : Index))), (Imp.toD rfl), ?_⟩)
    obtain ⟨x_10, hx_11, h⟩ := bG h
    refine xs 43 rfl (sf_call rfl rfl TT.enters_59 rfl (sim_pindex_Index_Text (⟨v1_0⟩ : Index) _ hx_11) ?_)
    refine xm 41 (.d (.tuple [.val (sV (x_10.1)), .val (.int .i64 (x_10.2))])) ?_
    refine xs 44 rfl (sf_extract rfl rfl rfl ?_)
    refine xs 45 rfl (sf_extract rfl rfl rfl ?_)
    refine xa 9 (pS (x_10.1)) ?_
    refine xz 10 (pI (x_10.2)) ?_
    refine QW.seq ?_
    refine QW.view (s' := ⟨tab [(1, .vptr 0 0), (2, pB v2), (6, .d (.slice (x_6.map eI))), (7, .vptr 1 0), (8, pB (x_8.2)), (9, pS (x_10.1)), (10, pI (x_10.2))], tabH [.var [.d (.slice (v1_0.map (eL eRow)))], .var ((cRow (x_8.1)).map .d)], 2, []⟩) (View.mk 2 [0, 1] _ _ _ rfl rfl (by decide) (iC (iC (iC (iC (iC (iC (iC trivial))))))) (And.intro rfl (And.intro (by simp only [atH1, rowC, PV.res_d]; rfl) trivial)) rfl zL rfl) zL ?_
    refine rG ?_
    refine xm 47 (pS (x_10.1)) ?_
    obtain ⟨x_12, hx_13, h⟩ := bG h
    refine xs 48 rfl (sf_call rfl rfl TT.enters_60 rfl (sim_pindex_Load (x_10.1) _ hx_13) ?_)
    refine xm 46 (.d (.tuple [.agg (cIndex (x_12.1)), .val (.int .i64 (x_12.2))])) ?_
    refine xs 49 rfl (sf_extract rfl rfl rfl ?_)
    refine xs 50 rfl (sf_extract rfl rfl rfl ?_)
    refine xs 11 rfl (sf_alloc (l := [.full (([] : (List (List Row))).map (eL eRow))]) rfl TT.zeroA_71 rfl rfl ?_)
    refine XK.st none rfl rfl (sf_stV (l' := [.d (.slice (((x_12.1).fpages).map (eL eRow)))]) rfl TT.tyA_71 rfl rfl rfl rfl rfl rfl (by simp) rfl ?_)
    refine xz 12 (pI (x_12.2)) ?_
    refine sR ?_
    refine XK.as (some 52) rfl rfl (sf_ldV (v := .agg [.d (.slice (v1_0.map (eL eRow)))]) rfl TT.tyA_71 rfl rfl ⟨⟨by simp, by simp⟩, rfl⟩ ⟨.d (.agg (cIndex (⟨v1_0⟩ : Index))), (Imp.toD rfl), ?_⟩)
    refine XK.as (some 53) rfl rfl (sf_build (v := .agg [.d (.val (.int .u8 ((0 : UInt8).toNat : Int))), .d (.val (.int .u8 ((0 : UInt8).toNat : Int))), .d (.val (.int .u8 ((0 : UInt8).toNat : Int))), .d (.val (.int .u8 ((0 : UInt8).toNat : Int))), .d (.val (.int .u8 ((0 : UInt8).toNat : Int))), .d (.val (.int .u8 ((0 : UInt8).toNat : Int))), .d (.val (.int .u8 ((0 : UInt8).toNat : Int))), .d (.val (.int .u8 ((0 : UInt8).toNat : Int))), .d (.val (.int .u8 ((0 : UInt8).toNat : Int))), .d (.val (.int .u8 ((0 : UInt8).toNat : Int))), .d (.val (.int .u8 ((0 : UInt8).toNat : Int))), .d (.val (.int .u8 ((0 : UInt8).toNat : Int))), .d (.val (.int .u8 ((0 : UInt8).toNat : Int))), .d (.val (.int .u8 ((0 : UInt8).toNat : Int))), .d (.val (.int .u8 ((0 : UInt8).toNat : Int))), .d (.val (.int .u8 ((0 : UInt8).toNat : Int))), .d (.val (.int .u8 ((0 : UInt8).toNat : Int))), .d (.val (.int .u8 ((0 : UInt8).toNat : Int))), .d (.val (.int .u8 ((0 : UInt8).toNat : Int))), .d (.val (.int .u8 ((0 : UInt8).toNat : Int))), .d (.val (.int .u8 ((0 : UInt8).toNat : Int))), .d (.val (.int .u8 ((0 : UInt8).toNat : Int))), .d (.val (.int .u8 ((0 : UInt8).toNat : Int))), .d (.val (.int .u8 ((0 : UInt8).toNat : Int))), .d (.val (.int .u8 ((0 : UInt8).toNat : Int))), .d (.val (.int .u8 ((0 : UInt8).toNat : Int))), .d (.val (.int .u8 ((0 : UInt8).toNat : Int))), .d (.val (.int .u8 ((0 : UInt8).toNat : Int))), .d (.val (.int .u8 ((0 : UInt8).toNat : Int))), .d (.val (.int .u8 ((0 : UInt8).toNat : Int))), .d (.val (.int .u8 ((0 : UInt8).toNat : Int))), .d (.val (.int .u8 ((0 : UInt8).toNat : Int)))]) rfl (by rw [TT.bldA_35]; simp [buildP, fillP, placeOf, partsQ, evP, PV.solid, PV.cellsP, Value.oneCell', spl, cellV, ofVal, List.all, putS_at, tab, unS, unT, asCond, unC]) (by rw [TT.bldA_35]; rfl) ⟨.d (.agg ((⟨[(0 : UInt8), (0 : UInt8), (0 : UInt8), (0 : UInt8), (0 : UInt8), (0 : UInt8), (0 : UInt8), (0 : UInt8), (0 : UInt8), (0 : UInt8), (0 : UInt8), (0 : UInt8), (0 : UInt8), (0 : UInt8), (0 : UInt8), (0 : UInt8), (0 : UInt8), (0 : UInt8), (0 : UInt8), (0 : UInt8), (0 : UInt8), (0 : UInt8), (0 : UInt8), (0 : UInt8), (0 : UInt8), (0 : UInt8), (0 : UInt8), (0 : UInt8), (0 : UInt8), (0 : UInt8), (0 : UInt8), (0 : UInt8)], rfl⟩ : (Arr 32 UInt8)).1.map byteD)), (Imp.toD rfl), ?_⟩)
    obtain ⟨x_14, hx_15, h⟩ := bG h
    refine xs 54 rfl (sf_call rfl rfl TT.enters_51 rfl (sim_pindex_Index_Drop (⟨v1_0⟩ : Index) (⟨[(0 : UInt8), (0 : UInt8), (0 : UInt8), (0 : UInt8), (0 : UInt8), (0 : UInt8), (0 : UInt8), (0 : UInt8), (0 : UInt8), (0 : UInt8), (0 : UInt8), (0 : UInt8), (0 : UInt8), (0 : UInt8), (0 : UInt8), (0 : UInt8), (0 : UInt8), (0 : UInt8), (0 : UInt8), (0 : UInt8), (0 : UInt8), (0 : UInt8), (0 : UInt8), (0 : UInt8), (0 : UInt8), (0 : UInt8), (0 : UInt8), (0 : UInt8), (0 : UInt8), (0 : UInt8), (0 : UInt8), (0 : UInt8)], rfl⟩ : (Arr 32 UInt8)) (1) _ hx_15) ?_)
    refine xm 51 (.d (.tuple [.agg (cIndex (x_14.1)), .val (.bool (x_14.2))])) ?_
    refine xs 55 rfl (sf_extract rfl rfl rfl ?_)
    refine xs 56 rfl (sf_extract rfl rfl rfl ?_)
    refine xs 13 rfl (sf_alloc (l := [.full (([] : (List (List Row))).map (eL eRow))]) rfl TT.zeroA_71 rfl rfl ?_)
    refine XK.st none rfl rfl (sf_stV (l' := [.d (.slice (((x_14.1).fpages).map (eL eRow)))]) rfl TT.tyA_71 rfl rfl rfl rfl rfl rfl (by simp) rfl ?_)
    refine xz 14 (pB (x_14.2)) ?_
    refine QW.seq ?_
    refine QW.view (s' := ⟨tab [(1, .vptr 0 0), (2, pB v2), (6, .d (.slice (x_6.map eI))), (7, .vptr 1 0), (8, pB (x_8.2)), (10, pI (x_10.2)), (11, .vptr 2 0), (12, pI (x_12.2)), (13, .vptr 3 0), (14, pB (x_14.2))], tabH [.var [.d (.slice (v1_0.map (eL eRow)))], .var ((cRow (x_8.1)).map .d), .var [.d (.slice (((x_12.1).fpages).map (eL eRow)))], .var [.d (.slice (((x_14.1).fpages).map (eL eRow)))]], 4, []⟩) (View.mk 4 [0, 1, 2, 3] _ _ _ rfl rfl (by decide) (iC (iC (iC (iC (iC (iC (iC (iC (iC (iC trivial)))))))))) (And.intro rfl (And.intro (by simp only [atH1, rowC, PV.res_d]; rfl) (And.intro rfl (And.intro rfl trivial)))) rfl zL rfl) zL ?_
    refine rG ?_
    refine xm 57 (pB v2) ?_
    refine xm 58 (pB v2) ?_
    refine xg 59 (.d (.slice (x_6.map eI))) rfl rfl (fun hg => sf_move (v := .d (.slice (x_6.map eI))) rfl rfl g3) ?_
    refine xg 60 (pI (x_6.length : Int)) rfl rfl (fun hg => sf_lenL (en := eI) (l := x_6) rfl TT.under_81 rfl g3) ?_
    refine xg 61 (pB (decide ((x_6.length : Int) = (2 : Int)))) rfl rfl (fun hg => sf_eq (a := (x_6.length : Int)) (b := (2 : Int)) rfl rfl rfl g3) ?_
    refine xs 62 rfl (sf_pickA rfl rfl rfl rfl (fun hb => by rw [hb]; rfl) (fun _ => rfl) ?_)
    refine xm 63 (pB (v2 && (decide ((x_6.length : Int) = (2 : Int))))) ?_
    refine xg 64 (.d (.slice (x_6.map eI))) rfl rfl (fun hg => sf_move (v := .d (.slice (x_6.map eI))) rfl rfl g3) ?_
    obtain ⟨c_16, h⟩ := gG h
    refine xg 65 (.d (.cptr ([.val (.int .i64 (idx x_6 (0 : Int)))]))) rfl rfl (fun hg => sf_idxA (l := x_6) (i := (0 : Int)) rfl TT.slcA_81 lay_I rfl rfl (c_16 hg) g3) ?_
    refine xg 66 (pI (idx x_6 (0 : Int))) rfl rfl (fun hg => sf_ldC (d := .val (.int .i64 (idx x_6 (0 : Int)))) rfl TT.tyA_3 rfl (LdC.one) g3) ?_
    refine xg 67 (pB (decide ((idx x_6 (0 : Int)) = (5 : Int)))) rfl rfl (fun hg => sf_eq (a := (idx x_6 (0 : Int))) (b := (5 : Int)) rfl rfl rfl g3) ?_
    refine xs 68 rfl (sf_pickA rfl rfl rfl rfl (fun hb => by rw [hb]; rfl) (fun _ => rfl) ?_)
    refine xm 69 (pB ((v2 && (decide ((x_6.length : Int) = (2 : Int)))) && (decide ((idx x_6 (0 : Int)) = (5 : Int))))) ?_
    refine xg 70 (.d (.slice (x_6.map eI))) rfl rfl (fun hg => sf_move (v := .d (.slice (x_6.map eI))) rfl rfl g3) ?_
    obtain ⟨c_17, h⟩ := gG h
    refine xg 71 (.d (.cptr ([.val (.int .i64 (idx x_6 (1 : Int)))]))) rfl rfl (fun hg => sf_idxA (l := x_6) (i := (1 : Int)) rfl TT.slcA_81 lay_I rfl rfl (c_17 hg) g3) ?_
    refine xg 72 (pI (idx x_6 (1 : Int))) rfl rfl (fun hg => sf_ldC (d := .val (.int .i64 (idx x_6 (1 : Int)))) rfl TT.tyA_3 rfl (LdC.one) g3) ?_
    refine xg 73 (pB (decide ((idx x_6 (1 : Int)) = (4 : Int)))) rfl rfl (fun hg => sf_eq (a := (idx x_6 (1 : Int))) (b := (4 : Int)) rfl rfl rfl g3) ?_
    refine xs 74 rfl (sf_pickA rfl rfl rfl rfl (fun hb => by rw [hb]; rfl) (fun _ => rfl) ?_)
    refine xm 75 (pB (((v2 && (decide ((x_6.length : Int) = (2 : Int)))) && (decide ((idx x_6 (0 : Int)) = (5 : Int)))) && (decide ((idx x_6 (1 : Int)) = (4 : Int))))) ?_
    refine xg 76 (pB (x_8.2)) rfl rfl (fun hg => sf_move (v := pB (x_8.2)) rfl rfl g3) ?_
    refine xs 77 rfl (sf_pickA rfl rfl rfl rfl (fun hb => by rw [hb]; rfl) (fun _ => rfl) ?_)
    refine xm 78 (pB ((((v2 && (decide ((x_6.length : Int) = (2 : Int)))) && (decide ((idx x_6 (0 : Int)) = (5 : Int)))) && (decide ((idx x_6 (1 : Int)) = (4 : Int)))) && x_8.2)) ?_
    refine xg 79 (.vptr 1 0) rfl rfl (fun hg => sf_fldV rfl TT.fldA_37_0 (by decide) rfl g3) ?_
    refine XK.gd (v := .d (.agg (((x_8.1).fSum).1.map byteD))) (T := [1]) (some 80) rfl rfl (by repeat (first | exact trivial | refine ⟨fun q => by first | rfl | exact q | exact cda q | exact cdb q, ?_⟩)) (fun hg => sf_ldV rfl TT.tyA_35 rfl rfl (ldv_ldcA (ldc_Row_0 _) (by rw [lay_Row.len]; decide) (by decide)) ⟨⟨rfl, rfl, rfl⟩, rfl, imp_arr⟩) (fun _ i hi => by simp only [List.mem_singleton] at hi; subst hi; decide) ?_
    refine xg 81 (.d (.agg ((⟨[(7 : UInt8), (0 : UInt8), (0 : UInt8), (0 : UInt8), (0 : UInt8), (0 : UInt8), (0 : UInt8), (0 : UInt8), (0 : UInt8), (0 : UInt8), (0 : UInt8), (0 : UInt8), (0 : UInt8), (0 : UInt8), (0 : UInt8), (0 : UInt8), (0 : UInt8), (0 : UInt8), (0 : UInt8), (0 : UInt8), (0 : UInt8), (0 : UInt8), (0 : UInt8), (0 : UInt8), (0 : UInt8), (0 : UInt8), (0 : UInt8), (0 : UInt8), (0 : UInt8), (0 : UInt8), (0 : UInt8), (0 : UInt8)], rfl⟩ : (Arr 32 UInt8)).1.map byteD))) rfl rfl (fun hg => sf_build (v := .agg [.d (.val (.int .u8 ((7 : UInt8).toNat : Int))), .d (.val (.int .u8 ((0 : UInt8).toNat : Int))), .d (.val (.int .u8 ((0 : UInt8).toNat : Int))), .d (.val (.int .u8 ((0 : UInt8).toNat : Int))), .d (.val (.int .u8 ((0 : UInt8).toNat : Int))), .d (.val (.int .u8 ((0 : UInt8).toNat : Int))), .d (.val (.int .u8 ((0 : UInt8).toNat : Int))), .d (.val (.int .u8 ((0 : UInt8).toNat : Int))), .d (.val (.int .u8 ((0 : UInt8).toNat : Int))), .d (.val (.int .u8 ((0 : UInt8).toNat : Int))), .d (.val (.int .u8 ((0 : UInt8).toNat : Int))), .d (.val (.int .u8 ((0 : UInt8).toNat : Int))), .d (.val (.int .u8 ((0 : UInt8).toNat : Int))), .d (.val (.int .u8 ((0 : UInt8).toNat : Int))), .d (.val (.int .u8 ((0 : UInt8).toNat : Int))), .d (.val (.int .u8 ((0 : UInt8).toNat : Int))), .d (.val (.int .u8 ((0 : UInt8).toNat : Int))), .d (.val (.int .u8 ((0 : UInt8).toNat : Int))), .d (.val (.int .u8 ((0 : UInt8).toNat : Int))), .d (.val (.int .u8 ((0 : UInt8).toNat : Int))), .d (.val (.int .u8 ((0 : UInt8).toNat : Int))), .d (.val (.int .u8 ((0 : UInt8).toNat : Int))), .d (.val (.int .u8 ((0 : UInt8).toNat : Int))), .d (.val (.int .u8 ((0 : UInt8).toNat : Int))), .d (.val (.int .u8 ((0 : UInt8).toNat : Int))), .d (.val (.int .u8 ((0 : UInt8).toNat : Int))), .d (.val (.int .u8 ((0 : UInt8).toNat : Int))), .d (.val (.int .u8 ((0 : UInt8).toNat : Int))), .d (.val (.int .u8 ((0 : UInt8).toNat : Int))), .d (.val (.int .u8 ((0 : UInt8).toNat : Int))), .d (.val (.int .u8 ((0 : UInt8).toNat : Int))), .d (.val (.int .u8 ((0 : UInt8).toNat : Int)))]) rfl (by rw [TT.bldA_35]; simp [buildP, fillP, placeOf, partsQ, evP, PV.solid, PV.cellsP, Value.oneCell', spl, cellV, ofVal, List.all, putS_at, tab, unS, unT, asCond, unC]) (by rw [TT.bldA_35]; rfl) ⟨⟨rfl, rfl, rfl⟩, rfl, (Imp.toD rfl)⟩) ?_
    refine xg 82 (pB (((x_8.1).fSum).1 == (⟨[(7 : UInt8), (0 : UInt8), (0 : UInt8), (0 : UInt8), (0 : UInt8), (0 : UInt8), (0 : UInt8), (0 : UInt8), (0 : UInt8), (0 : UInt8), (0 : UInt8), (0 : UInt8), (0 : UInt8), (0 : UInt8), (0 : UInt8), (0 : UInt8), (0 : UInt8), (0 : UInt8), (0 : UInt8), (0 : UInt8), (0 : UInt8), (0 : UInt8), (0 : UInt8), (0 : UInt8), (0 : UInt8), (0 : UInt8), (0 : UInt8), (0 : UInt8), (0 : UInt8), (0 : UInt8), (0 : UInt8), (0 : UInt8)], rfl⟩ : (Arr 32 UInt8)).1)) rfl rfl (fun hg => sf_arreq (p := (x_8.1).fSum) (q := (⟨[(7 : UInt8), (0 : UInt8), (0 : UInt8), (0 : UInt8), (0 : UInt8), (0 : UInt8), (0 : UInt8), (0 : UInt8), (0 : UInt8), (0 : UInt8), (0 : UInt8), (0 : UInt8), (0 : UInt8), (0 : UInt8), (0 : UInt8), (0 : UInt8), (0 : UInt8), (0 : UInt8), (0 : UInt8), (0 : UInt8), (0 : UInt8), (0 : UInt8), (0 : UInt8), (0 : UInt8), (0 : UInt8), (0 : UInt8), (0 : UInt8), (0 : UInt8), (0 : UInt8), (0 : UInt8), (0 : UInt8), (0 : UInt8)], rfl⟩ : (Arr 32 UInt8))) rfl TT.arrB_35_32 rfl rfl g3) ?_
    refine xs 83 rfl (sf_pickA rfl rfl rfl rfl (fun hb => by rw [hb]; rfl) (fun _ => rfl) ?_)
    refine xm 84 (pB (((((v2 && (decide ((x_6.length : Int) = (2 : Int)))) && (decide ((idx x_6 (0 : Int)) = (5 : Int)))) && (decide ((idx x_6 (1 : Int)) = (4 : Int)))) && x_8.2) && (((x_8.1).fSum).1 == (⟨[(7 : UInt8), (0 : UInt8), (0 : UInt8), (0 : UInt8), (0 : UInt8), (0 : UInt8), (0 : UInt8), (0 : UInt8), (0 : UInt8), (0 : UInt8), (0 : UInt8), (0 : UInt8), (0 : UInt8), (0 : UInt8), (0 : UInt8), (0 : UInt8), (0 : UInt8), (0 : UInt8), (0 : UInt8), (0 : UInt8), (0 : UInt8), (0 : UInt8), (0 : UInt8), (0 : UInt8), (0 : UInt8), (0 : UInt8), (0 : UInt8), (0 : UInt8), (0 : UInt8), (0 : UInt8), (0 : UInt8), (0 : UInt8)], rfl⟩ : (Arr 32 UInt8)).1))) ?_
    refine xg 85 (pI (x_10.2)) rfl rfl (fun hg => sf_move (v := pI (x_10.2)) rfl rfl g3) ?_
    refine xg 86 (pB (decide ((x_10.2) = (0 : Int)))) rfl rfl (fun hg => sf_eq (a := (x_10.2)) (b := (0 : Int)) rfl rfl rfl g3) ?_
    refine xs 87 rfl (sf_pickA rfl rfl rfl rfl (fun hb => by rw [hb]; rfl) (fun _ => rfl) ?_)
    refine xm 88 (pB ((((((v2 && (decide ((x_6.length : Int) = (2 : Int)))) && (decide ((idx x_6 (0 : Int)) = (5 : Int)))) && (decide ((idx x_6 (1 : Int)) = (4 : Int)))) && x_8.2) && (((x_8.1).fSum).1 == (⟨[(7 : UInt8), (0 : UInt8), (0 : UInt8), (0 : UInt8), (0 : UInt8), (0 : UInt8), (0 : UInt8), (0 : UInt8), (0 : UInt8), (0 : UInt8), (0 : UInt8), (0 : UInt8), (0 : UInt8), (0 : UInt8), (0 : UInt8), (0 : UInt8), (0 : UInt8), (0 : UInt8), (0 : UInt8), (0 : UInt8), (0 : UInt8), (0 : UInt8), (0 : UInt8), (0 : UInt8), (0 : UInt8), (0 : UInt8), (0 : UInt8), (0 : UInt8), (0 : UInt8), (0 : UInt8), (0 : UInt8), (0 : UInt8)], rfl⟩ : (Arr 32 UInt8)).1)) && (decide ((x_10.2) = (0 : Int))))) ?_
    refine xg 89 (pI (x_12.2)) rfl rfl (fun hg => sf_move (v := pI (x_12.2)) rfl rfl g3) ?_
    refine xg 90 (pB (decide ((x_12.2) = (0 : Int)))) rfl rfl (fun hg => sf_eq (a := (x_12.2)) (b := (0 : Int)) rfl rfl rfl g3) ?_
    refine xs 91 rfl (sf_pickA rfl rfl rfl rfl (fun hb => by rw [hb]; rfl) (fun _ => rfl) ?_)
    refine xm 92 (pB (((((((v2 && (decide ((x_6.length : Int) = (2 : Int)))) && (decide ((idx x_6 (0 : Int)) = (5 : Int)))) && (decide ((idx x_6 (1 : Int)) = (4 : Int)))) && x_8.2) && (((x_8.1).fSum).1 == (⟨[(7 : UInt8), (0 : UInt8), (0 : UInt8), (0 : UInt8), (0 : UInt8), (0 : UInt8), (0 : UInt8), (0 : UInt8), (0 : UInt8), (0 : UInt8), (0 : UInt8), (0 : UInt8), (0 : UInt8), (0 : UInt8), (0 : UInt8), (0 : UInt8), (0 : UInt8), (0 : UInt8), (0 : UInt8), (0 : UInt8), (0 : UInt8), (0 : UInt8), (0 : UInt8), (0 : UInt8), (0 : UInt8), (0 : UInt8), (0 : UInt8), (0 : UInt8), (0 : UInt8), (0 : UInt8), (0 : UInt8), (0 : UInt8)], rfl⟩ : (Arr 32 UInt8)).1)) && (decide ((x_10.2) = (0 : Int)))) && (decide ((x_12.2) = (0 : Int))))) ?_
    refine XK.gd (v := .d (.agg (cIndex (x_12.1)))) (T := [2]) (some 93) rfl rfl (by repeat (first | exact trivial | refine ⟨fun q => by first | rfl | exact q | exact cda q | exact cdb q, ?_⟩)) (fun hg => sf_ldV (v := .agg [.d (.slice (((x_12.1).fpages).map (eL eRow)))]) rfl TT.tyA_71 rfl rfl ⟨⟨by simp, by simp⟩, rfl⟩ ⟨⟨rfl, rfl, rfl⟩, rfl, (Imp.toD rfl)⟩) (fun _ i hi => by simp only [List.mem_singleton] at hi; subst hi; decide) ?_
    obtain ⟨x_18, hx_19, h⟩ := bG h
    refine xg 94 (.d (.slice (x_18.map eRow))) rfl rfl (fun hg => sf_call rfl rfl TT.enters_56 rfl (sim_pindex_Index_All (x_12.1) _ (bT hx_19 hg)) g3) ?_
    refine xg 95 (pI (x_18.length : Int)) rfl rfl (fun hg => sf_lenL (en := eRow) (l := x_18) rfl TT.under_22 rfl g3) ?_
    refine xg 96 (pB (decide ((x_18.length : Int) = (9 : Int)))) rfl rfl (fun hg => sf_eq (a := (x_18.length : Int)) (b := (9 : Int)) rfl rfl rfl g3) ?_
    refine xs 97 rfl (sf_pickA rfl rfl rfl rfl (fun hb => by rw [hb]; rfl) (fun _ => rfl) ?_)
    refine xm 98 (pB ((((((((v2 && (decide ((x_6.length : Int) = (2 : Int)))) && (decide ((idx x_6 (0 : Int)) = (5 : Int)))) && (decide ((idx x_6 (1 : Int)) = (4 : Int)))) && x_8.2) && (((x_8.1).fSum).1 == (⟨[(7 : UInt8), (0 : UInt8), (0 : UInt8), (0 : UInt8), (0 : UInt8), (0 : UInt8), (0 : UInt8), (0 : UInt8), (0 : UInt8), (0 : UInt8), (0 : UInt8), (0 : UInt8), (0 : UInt8), (0 : UInt8), (0 : UInt8), (0 : UInt8), (0 : UInt8), (0 : UInt8), (0 : UInt8), (0 : UInt8), (0 : UInt8), (0 : UInt8), (0 : UInt8), (0 : UInt8), (0 : UInt8), (0 : UInt8), (0 : UInt8), (0 : UInt8), (0 : UInt8), (0 : UInt8), (0 : UInt8), (0 : UInt8)], rfl⟩ : (Arr 32 UInt8)).1)) && (decide ((x_10.2) = (0 : Int)))) && (decide ((x_12.2) = (0 : Int)))) && (decide ((x_18.length : Int) = (9 : Int))))) ?_
    refine xg 99 (pB (x_14.2)) rfl rfl (fun hg => sf_move (v := pB (x_14.2)) rfl rfl g3) ?_
    refine xs 100 rfl (sf_pickA rfl rfl rfl rfl (fun hb => by rw [hb]; rfl) (fun _ => rfl) ?_)
    refine xm 101 (pB (((((((((v2 && (decide ((x_6.length : Int) = (2 : Int)))) && (decide ((idx x_6 (0 : Int)) = (5 : Int)))) && (decide ((idx x_6 (1 : Int)) = (4 : Int)))) && x_8.2) && (((x_8.1).fSum).1 == (⟨[(7 : UInt8), (0 : UInt8), (0 : UInt8), (0 : UInt8), (0 : UInt8), (0 : UInt8), (0 : UInt8), (0 : UInt8), (0 : UInt8), (0 : UInt8), (0 : UInt8), (0 : UInt8), (0 : UInt8), (0 : UInt8), (0 : UInt8), (0 : UInt8), (0 : UInt8), (0 : UInt8), (0 : UInt8), (0 : UInt8), (0 : UInt8), (0 : UInt8), (0 : UInt8), (0 : UInt8), (0 : UInt8), (0 : UInt8), (0 : UInt8), (0 : UInt8), (0 : UInt8), (0 : UInt8), (0 : UInt8), (0 : UInt8)], rfl⟩ : (Arr 32 UInt8)).1)) && (decide ((x_10.2) = (0 : Int)))) && (decide ((x_12.2) = (0 : Int)))) && (decide ((x_18.length : Int) = (9 : Int)))) && x_14.2)) ?_
    refine XK.gd (v := .d (.agg (cIndex (x_14.1)))) (T := [3]) (some 102) rfl rfl (by repeat (first | exact trivial | refine ⟨fun q => by first | rfl | exact q | exact cda q | exact cdb q, ?_⟩)) (fun hg => sf_ldV (v := .agg [.d (.slice (((x_14.1).fpages).map (eL eRow)))]) rfl TT.tyA_71 rfl rfl ⟨⟨by simp, by simp⟩, rfl⟩ ⟨⟨rfl, rfl, rfl⟩, rfl, (Imp.toD rfl)⟩) (fun _ i hi => by simp only [List.mem_singleton] at hi; subst hi; decide) ?_
    obtain ⟨x_20, hx_21, h⟩ := bG h
    refine xg 103 (.d (.slice (x_20.map eI))) rfl rfl (fun hg => sf_call rfl rfl TT.enters_55 rfl (sim_pindex_Index_Pages (x_14.1) _ (bT hx_21 hg)) g3) ?_
    refine xg 104 (pI (x_20.length : Int)) rfl rfl (fun hg => sf_lenL (en := eI) (l := x_20) rfl TT.under_81 rfl g3) ?_
    refine xg 105 (pB (decide ((x_20.length : Int) = (1 : Int)))) rfl rfl (fun hg => sf_eq (a := (x_20.length : Int)) (b := (1 : Int)) rfl rfl rfl g3) ?_
    refine xs 106 rfl (sf_pickA rfl rfl rfl rfl (fun hb => by rw [hb]; rfl) (fun _ => rfl) ?_)
    refine xm 107 (pB ((((((((((v2 && (decide ((x_6.length : Int) = (2 : Int)))) && (decide ((idx x_6 (0 : Int)) = (5 : Int)))) && (decide ((idx x_6 (1 : Int)) = (4 : Int)))) && x_8.2) && (((x_8.1).fSum).1 == (⟨[(7 : UInt8), (0 : UInt8), (0 : UInt8), (0 : UInt8), (0 : UInt8), (0 : UInt8), (0 : UInt8), (0 : UInt8), (0 : UInt8), (0 : UInt8), (0 : UInt8), (0 : UInt8), (0 : UInt8), (0 : UInt8), (0 : UInt8), (0 : UInt8), (0 : UInt8), (0 : UInt8), (0 : UInt8), (0 : UInt8), (0 : UInt8), (0 : UInt8), (0 : UInt8), (0 : UInt8), (0 : UInt8), (0 : UInt8), (0 : UInt8), (0 : UInt8), (0 : UInt8), (0 : UInt8), (0 : UInt8), (0 : UInt8)], rfl⟩ : (Arr 32 UInt8)).1)) && (decide ((x_10.2) = (0 : Int)))) && (decide ((x_12.2) = (0 : Int)))) && (decide ((x_18.length : Int) = (9 : Int)))) && x_14.2) && (decide ((x_20.length : Int) = (1 : Int))))) ?_
    refine XK.gd (v := .d (.agg (cIndex (⟨v1_0⟩ : Index)))) (T := [0]) (some 108) rfl rfl (by repeat (first | exact trivial | refine ⟨fun q => by first | rfl | exact q | exact cda q | exact cdb q, ?_⟩)) (fun hg => sf_ldV (v := .agg [.d (.slice (v1_0.map (eL eRow)))]) rfl TT.tyA_71 rfl rfl ⟨⟨by simp, by simp⟩, rfl⟩ ⟨⟨rfl, rfl, rfl⟩, rfl, (Imp.toD rfl)⟩) (fun _ i hi => by simp only [List.mem_singleton] at hi; subst hi; decide) ?_
    refine xg 109 (.d (.agg ((⟨[(3 : UInt8), (0 : UInt8), (0 : UInt8), (0 : UInt8), (0 : UInt8), (0 : UInt8), (0 : UInt8), (0 : UInt8), (0 : UInt8), (0 : UInt8), (0 : UInt8), (0 : UInt8), (0 : UInt8), (0 : UInt8), (0 : UInt8), (0 : UInt8), (0 : UInt8), (0 : UInt8), (0 : UInt8), (0 : UInt8), (0 : UInt8), (0 : UInt8), (0 : UInt8), (0 : UInt8), (0 : UInt8), (0 : UInt8), (0 : UInt8), (0 : UInt8), (0 : UInt8), (0 : UInt8), (0 : UInt8), (0 : UInt8)], rfl⟩ : (Arr 32 UInt8)).1.map byteD))) rfl rfl (fun hg => sf_build (v := .agg [.d (.val (.int .u8 ((3 : UInt8).toNat : Int))), .d (.val (.int .u8 ((0 : UInt8).toNat : Int))), .d (.val (.int .u8 ((0 : UInt8).toNat : Int))), .d (.val (.int .u8 ((0 : UInt8).toNat : Int))), .d (.val (.int .u8 ((0 : UInt8).toNat : Int))), .d (.val (.int .u8 ((0 : UInt8).toNat : Int))), .d (.val (.int .u8 ((0 : UInt8).toNat : Int))), .d (.val (.int .u8 ((0 : UInt8).toNat : Int))), .d (.val (.int .u8 ((0 : UInt8).toNat : Int))), .d (.val (.int .u8 ((0 : UInt8).toNat : Int))), .d (.val (.int .u8 ((0 : UInt8).toNat : Int))), .d (.val (.int .u8 ((0 : UInt8).toNat : Int))), .d (.val (.int .u8 ((0 : UInt8).toNat : Int))), .d (.val (.int .u8 ((0 : UInt8).toNat : Int))), .d (.val (.int .u8 ((0 : UInt8).toNat : Int))), .d (.val (.int .u8 ((0 : UInt8).toNat : Int))), .d (.val (.int .u8 ((0 : UInt8).toNat : Int))), .d (.val (.int .u8 ((0 : UInt8).toNat : Int))), .d (.val (.int .u8 ((0 : UInt8).toNat : Int))), .d (.val (.int .u8 ((0 : UInt8).toNat : Int))), .d (.val (.int .u8 ((0 : UInt8).toNat : Int))), .d (.val (.int .u8 ((0 : UInt8).toNat : Int))), .d (.val (.int .u8 ((0 : UInt8).toNat : Int))), .d (.val (.int .u8 ((0 : UInt8).toNat : Int))), .d (.val (.int .u8 ((0 : UInt8).toNat : Int))), .d (.val (.int .u8 ((0 : UInt8).toNat : Int))), .d (.val (.int .u8 ((0 : UInt8).toNat : Int))), .d (.val (.int .u8 ((0 : UInt8).toNat : Int))), .d (.val (.int .u8 ((0 : UInt8).toNat : Int))), .d (.val (.int .u8 ((0 : UInt8).toNat : Int))), .d (.val (.int .u8 ((0 : UInt8).toNat : Int))), .d (.val (.int .u8 ((0 : UInt8).toNat : Int)))]) rfl (by rw [TT.bldA_35]; simp [buildP, fillP, placeOf, partsQ, evP, PV.solid, PV.cellsP, Value.oneCell', spl, cellV, ofVal, List.all, putS_at, tab, unS, unT, asCond, unC]) (by rw [TT.bldA_35]; rfl) ⟨⟨rfl, rfl, rfl⟩, rfl, (Imp.toD rfl)⟩) ?_
    obtain ⟨x_22, hx_23, h⟩ := bG h
    refine xg 110 (.d (.slice (x_22.map eRow))) rfl rfl (fun hg => sf_call rfl rfl TT.enters_62 rfl (sim_pindex_Index_Of (⟨v1_0⟩ : Index) (⟨[(3 : UInt8), (0 : UInt8), (0 : UInt8), (0 : UInt8), (0 : UInt8), (0 : UInt8), (0 : UInt8), (0 : UInt8), (0 : UInt8), (0 : UInt8), (0 : UInt8), (0 : UInt8), (0 : UInt8), (0 : UInt8), (0 : UInt8), (0 : UInt8), (0 : UInt8), (0 : UInt8), (0 : UInt8), (0 : UInt8), (0 : UInt8), (0 : UInt8), (0 : UInt8), (0 : UInt8), (0 : UInt8), (0 : UInt8), (0 : UInt8), (0 : UInt8), (0 : UInt8), (0 : UInt8), (0 : UInt8), (0 : UInt8)], rfl⟩ : (Arr 32 UInt8)) _ (bT hx_23 hg)) g3) ?_
    refine xg 111 (pI (x_22.length : Int)) rfl rfl (fun hg => sf_lenL (en := eRow) (l := x_22) rfl TT.under_22 rfl g3) ?_
    refine xg 112 (pB (decide ((x_22.length : Int) = (1 : Int)))) rfl rfl (fun hg => sf_eq (a := (x_22.length : Int)) (b := (1 : Int)) rfl rfl rfl g3) ?_
    refine xs 113 rfl (sf_pickA rfl rfl rfl rfl (fun hb => by rw [hb]; rfl) (fun _ => rfl) ?_)
    refine xz 0 (pB (((((((((((v2 && (decide ((x_6.length : Int) = (2 : Int)))) && (decide ((idx x_6 (0 : Int)) = (5 : Int)))) && (decide ((idx x_6 (1 : Int)) = (4 : Int)))) && x_8.2) && (((x_8.1).fSum).1 == (⟨[(7 : UInt8), (0 : UInt8), (0 : UInt8), (0 : UInt8), (0 : UInt8), (0 : UInt8), (0 : UInt8), (0 : UInt8), (0 : UInt8), (0 : UInt8), (0 : UInt8), (0 : UInt8), (0 : UInt8), (0 : UInt8), (0 : UInt8), (0 : UInt8), (0 : UInt8), (0 : UInt8), (0 : UInt8), (0 : UInt8), (0 : UInt8), (0 : UInt8), (0 : UInt8), (0 : UInt8), (0 : UInt8), (0 : UInt8), (0 : UInt8), (0 : UInt8), (0 : UInt8), (0 : UInt8), (0 : UInt8), (0 : UInt8)], rfl⟩ : (Arr 32 UInt8)).1)) && (decide ((x_10.2) = (0 : Int)))) && (decide ((x_12.2) = (0 : Int)))) && (decide ((x_18.length : Int) = (9 : Int)))) && x_14.2) && (decide ((x_20.length : Int) = (1 : Int)))) && (decide ((x_22.length : Int) = (1 : Int))))) ?_
    refine QW.ret zL ?_
    obtain rfl := sG h
    exact Ends.one (.inr rfl) rfl (ResIs.tmp rfl) rfl rfl
noncomputable def g_law48_PindexLoads (t0 : (List UInt8)) : Option Bool :=
    (bif (decide ((1500 : Int) < (t0.length : Int))) then
    ((g_law48_awake ).bind fun (x_2 : Bool) =>
    some x_2)
    else
    ((g_pindex_Load t0).bind fun (x_4 : (Index × Int)) =>
    (bif (!decide ((x_4.2) = (0 : Int))) then
    ((g_law48_awake ).bind fun (x_7 : Bool) =>
    ((bif (x_7 == true) then g_pindex_Index_All (x_4.1) else some default).bind fun (x_9 : (List Row)) =>
    some ((x_7 && (decide ((x_9.length : Int) = (0 : Int)))) && ((decide ((x_4.2) = (5 : Int))) || (decide ((x_4.2) = (6 : Int)))))))
    else
    ((g_pindex_Index_Text (x_4.1)).bind fun (x_11 : ((List UInt8) × Int)) =>
    ((g_law48_awake ).bind fun (x_13 : Bool) =>
    ((bif (((x_13 && (decide ((x_11.2) = (0 : Int)))) && (x_11.1 == t0)) == true) then g_pindex_Index_All (x_4.1) else some default).bind fun (x_15 : (List Row)) =>
    ((bif (((x_13 && (decide ((x_11.2) = (0 : Int)))) && (x_11.1 == t0)) == true) then g_ref47_Rises x_15 else some default).bind fun (x_17 : Bool) =>
    some (((x_13 && (decide ((x_11.2) = (0 : Int)))) && (x_11.1 == t0)) && x_17))))))))
theorem sim_law48_PindexLoads (t0 : (List UInt8)) (r : Bool) (h : g_law48_PindexLoads t0 = some r) : Fun Try.prog 11 [.val (sV t0)] (.val (.bool r)) := by
  refine Fun.of_bodyQ Try.func11 rfl (by simp [Try.ntmps11]) ?_
  rw [Try.ntmps11, TT.res_11]
  refine QW.view (s' := ⟨tab [(0, pS t0)], tabH [], 0, []⟩) (View.init (by rfl)) zL ?_
  unfold g_law48_PindexLoads at h
  refine sR ?_
  refine xz 2 (pB false) ?_
  refine QW.seq ?_
  refine sR ?_
  refine xm 7 (pS t0) ?_
  refine xs 8 rfl (sf_lenS (l := t0) rfl TT.under_9 rfl ?_)
  refine xs 9 rfl (sf_gtr (a := (t0.length : Int)) (b := (1500 : Int)) rfl rfl rfl ?_)
  refine XK.nz ?_
  refine QW.cond (t := (decide ((1500 : Int) < (t0.length : Int)))) rfl zL (fun hb_1 => ?_) (fun hb_1 => ?_)
  · replace h := bT h hb_1
    refine sR ?_
    obtain ⟨x_2, hx_3, h⟩ := bO h
    refine xs 10 rfl (sf_call rfl rfl TT.enters_49 rfl (sim_law48_awake  _ hx_3) ?_)
    refine xz 2 (pB x_2) ?_
    refine QW.ret zL (thR ?_)
    obtain rfl := sO h
    exact Ends.one (.inr rfl) rfl (ResIs.tmp rfl) rfl rfl
  · replace h := bF h hb_1
    refine QW.skip zL (nrm ?_)
    refine sR ?_
    refine xm 12 (pS t0) ?_
    obtain ⟨x_4, hx_5, h⟩ := bO h
    refine xs 13 rfl (sf_call rfl rfl TT.enters_60 rfl (sim_pindex_Load t0 _ hx_5) ?_)
    refine xm 11 (.d (.tuple [.agg (cIndex (x_4.1)), .val (.int .i64 (x_4.2))])) ?_
    refine xs 14 rfl (sf_extract rfl rfl rfl ?_)
    refine xs 15 rfl (sf_extract rfl rfl rfl ?_)
    refine xs 3 rfl (sf_alloc (l := [.full (([] : (List (List Row))).map (eL eRow))]) rfl TT.zeroA_71 rfl rfl ?_)
    refine XK.st none rfl rfl (sf_stV (l' := [.d (.slice (((x_4.1).fpages).map (eL eRow)))]) rfl TT.tyA_71 rfl rfl rfl rfl rfl rfl (by simp) rfl ?_)
    refine xz 4 (pI (x_4.2)) ?_
    refine QW.seq ?_
    refine sR ?_
    refine xm 16 (pI (x_4.2)) ?_
    refine xs 17 rfl (sf_ne (a := (x_4.2)) (b := (0 : Int)) rfl rfl rfl ?_)
    refine XK.nz ?_
    refine QW.cond (t := (!decide ((x_4.2) = (0 : Int)))) rfl zL (fun hb_6 => ?_) (fun hb_6 => ?_)
    · replace h := bT h hb_6
      refine sR ?_
      obtain ⟨x_7, hx_8, h⟩ := bO h
      refine xs 18 rfl (sf_call rfl rfl TT.enters_49 rfl (sim_law48_awake  _ hx_8) ?_)
      refine xm 19 (pB x_7) ?_
      refine XK.gd (v := .d (.agg (cIndex (x_4.1)))) (T := [0]) (some 20) rfl rfl (by repeat (first | exact trivial | refine ⟨fun q => by first | rfl | exact q | exact cda q | exact cdb q, ?_⟩)) (fun hg => sf_ldV (v := .agg [.d (.slice (((x_4.1).fpages).map (eL eRow)))]) rfl TT.tyA_71 rfl rfl ⟨⟨by simp, by simp⟩, rfl⟩ ⟨⟨rfl, rfl, rfl⟩, rfl, (Imp.toD rfl)⟩) (fun _ i hi => by simp only [List.mem_singleton] at hi; subst hi; decide) ?_
      obtain ⟨x_9, hx_10, h⟩ := bO h
      refine xg 21 (.d (.slice (x_9.map eRow))) rfl rfl (fun hg => sf_call rfl rfl TT.enters_56 rfl (sim_pindex_Index_All (x_4.1) _ (bT hx_10 hg)) g3) ?_
      refine xg 22 (pI (x_9.length : Int)) rfl rfl (fun hg => sf_lenL (en := eRow) (l := x_9) rfl TT.under_22 rfl g3) ?_
      refine xg 23 (pB (decide ((x_9.length : Int) = (0 : Int)))) rfl rfl (fun hg => sf_eq (a := (x_9.length : Int)) (b := (0 : Int)) rfl rfl rfl g3) ?_
      refine xs 24 rfl (sf_pickA rfl rfl rfl rfl (fun hb => by rw [hb]; rfl) (fun _ => rfl) ?_)
      refine xm 25 (pB (x_7 && (decide ((x_9.length : Int) = (0 : Int))))) ?_
      refine xg 26 (pI (x_4.2)) rfl rfl (fun hg => sf_move (v := pI (x_4.2)) rfl rfl g3) ?_
      refine xg 27 (pB (decide ((x_4.2) = (5 : Int)))) rfl rfl (fun hg => sf_eq (a := (x_4.2)) (b := (5 : Int)) rfl rfl rfl g3) ?_
      refine xg 28 (pB (decide ((x_4.2) = (5 : Int)))) rfl rfl (fun hg => sf_move (v := pB (decide ((x_4.2) = (5 : Int)))) rfl rfl g3) ?_
      refine xg 29 (pI (x_4.2)) rfl rfl (fun hg => sf_move (v := pI (x_4.2)) rfl rfl g3) ?_
      refine xg 30 (pB (decide ((x_4.2) = (6 : Int)))) rfl rfl (fun hg => sf_eq (a := (x_4.2)) (b := (6 : Int)) rfl rfl rfl g3) ?_
      refine XK.gp (some 31) rfl rfl rfl rfl rfl rfl (fun h => h) (fun _ _ => rfl) (fun hg hb => by first | (rw [hg, hb]; rfl) | (simp only [hg, hb]; rfl) | simp_all) ((decide ((x_4.2) = (5 : Int))) || (decide ((x_4.2) = (6 : Int)))) (bif_or _ _) ?_
      refine xs 32 rfl (sf_pickA rfl rfl rfl rfl (fun hb => by rw [hb]; rfl) (fun _ => rfl) ?_)
      refine xz 2 (pB ((x_7 && (decide ((x_9.length : Int) = (0 : Int)))) && ((decide ((x_4.2) = (5 : Int))) || (decide ((x_4.2) = (6 : Int)))))) ?_
      refine QW.ret zL (thR ?_)
      obtain rfl := sO h
      exact Ends.one (.inr rfl) rfl (ResIs.tmp rfl) rfl rfl
    · replace h := bF h hb_6
      refine QW.skip zL (nrm ?_)
      refine sR ?_
      refine XK.as (some 34) rfl rfl (sf_ldV (v := .agg [.d (.slice (((x_4.1).fpages).map (eL eRow)))]) rfl TT.tyA_71 rfl rfl ⟨⟨by simp, by simp⟩, rfl⟩ ⟨.d (.agg (cIndex (x_4.1))), (Imp.toD rfl), ?_⟩)
      obtain ⟨x_11, hx_12, h⟩ := bO h
      refine xs 35 rfl (sf_call rfl rfl TT.enters_59 rfl (sim_pindex_Index_Text (x_4.1) _ hx_12) ?_)
      refine xm 33 (.d (.tuple [.val (sV (x_11.1)), .val (.int .i64 (x_11.2))])) ?_
      refine xs 36 rfl (sf_extract rfl rfl rfl ?_)
      refine xs 37 rfl (sf_extract rfl rfl rfl ?_)
      refine xa 5 (pS (x_11.1)) ?_
      refine xz 6 (pI (x_11.2)) ?_
      refine sR ?_
      obtain ⟨x_13, hx_14, h⟩ := bO h
      refine xs 38 rfl (sf_call rfl rfl TT.enters_49 rfl (sim_law48_awake  _ hx_14) ?_)
      refine xm 39 (pB x_13) ?_
      refine xg 40 (pI (x_11.2)) rfl rfl (fun hg => sf_move (v := pI (x_11.2)) rfl rfl g3) ?_
      refine xg 41 (pB (decide ((x_11.2) = (0 : Int)))) rfl rfl (fun hg => sf_eq (a := (x_11.2)) (b := (0 : Int)) rfl rfl rfl g3) ?_
      refine xs 42 rfl (sf_pickA rfl rfl rfl rfl (fun hb => by rw [hb]; rfl) (fun _ => rfl) ?_)
      refine xm 43 (pB (x_13 && (decide ((x_11.2) = (0 : Int))))) ?_
      refine xg 44 (pS (x_11.1)) rfl rfl (fun hg => sf_move (v := pS (x_11.1)) rfl rfl g3) ?_
      refine xg 45 (pS t0) rfl rfl (fun hg => sf_move (v := pS t0) rfl rfl g3) ?_
      refine xg 46 (pB (x_11.1 == t0)) rfl rfl (fun hg => sf_seq (a := x_11.1) (b := t0) rfl rfl rfl g3) ?_
      refine xs 47 rfl (sf_pickA rfl rfl rfl rfl (fun hb => by rw [hb]; rfl) (fun _ => rfl) ?_)
      refine xm 48 (pB ((x_13 && (decide ((x_11.2) = (0 : Int)))) && (x_11.1 == t0))) ?_
      refine XK.gd (v := .d (.agg (cIndex (x_4.1)))) (T := [0]) (some 49) rfl rfl (by repeat (first | exact trivial | refine ⟨fun q => by first | rfl | exact q | exact cda q | exact cdb q, ?_⟩)) (fun hg => sf_ldV (v := .agg [.d (.slice (((x_4.1).fpages).map (eL eRow)))]) rfl TT.tyA_71 rfl rfl ⟨⟨by simp, by simp⟩, rfl⟩ ⟨⟨rfl, rfl, rfl⟩, rfl, (Imp.toD rfl)⟩) (fun _ i hi => by simp only [List.mem_singleton] at hi; subst hi; decide) ?_
      obtain ⟨x_15, hx_16, h⟩ := bO h
      refine xg 50 (.d (.slice (x_15.map eRow))) rfl rfl (fun hg => sf_call rfl rfl TT.enters_56 rfl (sim_pindex_Index_All (x_4.1) _ (bT hx_16 hg)) g3) ?_
      obtain ⟨x_17, hx_18, h⟩ := bO h
      refine xg 51 (pB x_17) rfl rfl (fun hg => sf_call rfl rfl TT.enters_57 rfl (sim_ref47_Rises x_15 _ (bT hx_18 hg)) g3) ?_
      refine xs 52 rfl (sf_pickA rfl rfl rfl rfl (fun hb => by rw [hb]; rfl) (fun _ => rfl) ?_)
      refine xz 2 (pB (((x_13 && (decide ((x_11.2) = (0 : Int)))) && (x_11.1 == t0)) && x_17)) ?_
      refine QW.ret zL ?_
      obtain rfl := sO h
      exact Ends.one (.inr rfl) rfl (ResIs.tmp rfl) rfl rfl
end Go.Proofs.Ytoeppofkmcdknaa.K
