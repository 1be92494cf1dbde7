/- The laws of layer 48: what they reckon. -/
import Derived.Test.YtoeppofkmcdknaaGWR47
import Derived.KernelRfl
namespace Go.Proofs.Ytoeppofkmcdknaa.K
open Go Go.RowKit
set_option linter.unusedSimpArgs false
set_option linter.unusedVariables false
set_option maxRecDepth 20000
set_option maxHeartbeats 4000000
namespace TT
theorem bldA_35 : bldA Try.prog 35 = some ([Value.int IntKind.u8 0, Value.int IntKind.u8 0, Value.int IntKind.u8 0, Value.int IntKind.u8 0, Value.int IntKind.u8 0, Value.int IntKind.u8 0, Value.int IntKind.u8 0, Value.int IntKind.u8 0, Value.int IntKind.u8 0, Value.int IntKind.u8 0, Value.int IntKind.u8 0, Value.int IntKind.u8 0, Value.int IntKind.u8 0, Value.int IntKind.u8 0, Value.int IntKind.u8 0, Value.int IntKind.u8 0, Value.int IntKind.u8 0, Value.int IntKind.u8 0, Value.int IntKind.u8 0, Value.int IntKind.u8 0, Value.int IntKind.u8 0, Value.int IntKind.u8 0, Value.int IntKind.u8 0, Value.int IntKind.u8 0, Value.int IntKind.u8 0, Value.int IntKind.u8 0, Value.int IntKind.u8 0, Value.int IntKind.u8 0, Value.int IntKind.u8 0, Value.int IntKind.u8 0, Value.int IntKind.u8 0, Value.int IntKind.u8 0], .inr 1) := by kernel_rfl
theorem enters_21 : entersB Try.prog 21 = true := by kernel_rfl
theorem enters_49 : entersB Try.prog 49 = true := by kernel_rfl
theorem enters_50 : entersB Try.prog 50 = true := by kernel_rfl
theorem enters_51 : entersB Try.prog 51 = true := by kernel_rfl
theorem enters_53 : entersB Try.prog 53 = true := by kernel_rfl
theorem enters_54 : entersB Try.prog 54 = true := by kernel_rfl
theorem enters_55 : entersB Try.prog 55 = true := by kernel_rfl
theorem enters_58 : entersB Try.prog 58 = true := by kernel_rfl
theorem enters_59 : entersB Try.prog 59 = true := by kernel_rfl
theorem enters_60 : entersB Try.prog 60 = true := by kernel_rfl
theorem enters_61 : entersB Try.prog 61 = true := by kernel_rfl
theorem enters_62 : entersB Try.prog 62 = true := by kernel_rfl
theorem fldA_74_1 : fldA Try.prog 74 1 = some (1, 34, true) := by kernel_rfl
theorem res_10 : Try.f10.results.toList = [.tmp 6] := rfl
theorem res_49 : Try.f49.results.toList = [.tmp 0] := rfl
theorem slcA_68 : slcA Try.prog 68 = some (35, 64, true) := by kernel_rfl
theorem under_68 : Program.underlying Try.prog 68 = some (.slice 74) := by kernel_rfl
end TT
inductive C_law48_awake where
  | S
  | L1 (v2 : Bool) (v3 : Int) (v1_0 : (List (List Row)))
noncomputable def step_law48_awake  : C_law48_awake → Option (C_law48_awake ⊕ Bool)
  | .S =>
    some (.inl (.L1 true (0) ([] : (List (List Row)))))
  | .L1 v2 v3 v1_0 =>
    (bif (decide (v3 < (9 : Int))) then
    ((g_pindex_Index_Put (⟨v1_0⟩ : Index) (⟨(⟨[(u8I v3), (0 : UInt8), (0 : UInt8), (0 : UInt8), (0 : UInt8), (0 : UInt8), (0 : UInt8), (0 : UInt8), (0 : UInt8), (0 : UInt8), (0 : UInt8), (0 : UInt8), (0 : UInt8), (0 : UInt8), (0 : UInt8), (0 : UInt8), (0 : UInt8), (0 : UInt8), (0 : UInt8), (0 : UInt8), (0 : UInt8), (0 : UInt8), (0 : UInt8), (0 : UInt8), (0 : UInt8), (0 : UInt8), (0 : UInt8), (0 : UInt8), (0 : UInt8), (0 : UInt8), (0 : UInt8), (0 : UInt8)], rfl⟩ : (Arr 32 UInt8)), 1, ([] : List UInt8)⟩ : Row)).bind fun (x_3 : (Index × Bool)) =>
    gO (inI (v3 + (1 : Int))) (
    some (.inl (.L1 (v2 && x_3.2) (v3 + (1 : Int)) ((x_3.1).fpages)))))
    else
    ((g_pindex_Index_Pages (⟨v1_0⟩ : Index)).bind fun (x_6 : (List Int)) =>
    ((g_pindex_Index_Get (⟨v1_0⟩ : Index) (⟨[(7 : UInt8), (0 : UInt8), (0 : UInt8), (0 : UInt8), (0 : UInt8), (0 : UInt8), (0 : UInt8), (0 : UInt8), (0 : UInt8), (0 : UInt8), (0 : UInt8), (0 : UInt8), (0 : UInt8), (0 : UInt8), (0 : UInt8), (0 : UInt8), (0 : UInt8), (0 : UInt8), (0 : UInt8), (0 : UInt8), (0 : UInt8), (0 : UInt8), (0 : UInt8), (0 : UInt8), (0 : UInt8), (0 : UInt8), (0 : UInt8), (0 : UInt8), (0 : UInt8), (0 : UInt8), (0 : UInt8), (0 : UInt8)], rfl⟩ : (Arr 32 UInt8)) (1)).bind fun (x_8 : (Row × Bool)) =>
    ((g_pindex_Index_Text (⟨v1_0⟩ : Index)).bind fun (x_10 : ((List UInt8) × Int)) =>
    ((g_pindex_Load (x_10.1)).bind fun (x_12 : (Index × Int)) =>
    ((g_pindex_Index_Drop (⟨v1_0⟩ : Index) (⟨[(0 : UInt8), (0 : UInt8), (0 : UInt8), (0 : UInt8), (0 : UInt8), (0 : UInt8), (0 : UInt8), (0 : UInt8), (0 : UInt8), (0 : UInt8), (0 : UInt8), (0 : UInt8), (0 : UInt8), (0 : UInt8), (0 : UInt8), (0 : UInt8), (0 : UInt8), (0 : UInt8), (0 : UInt8), (0 : UInt8), (0 : UInt8), (0 : UInt8), (0 : UInt8), (0 : UInt8), (0 : UInt8), (0 : UInt8), (0 : UInt8), (0 : UInt8), (0 : UInt8), (0 : UInt8), (0 : UInt8), (0 : UInt8)], rfl⟩ : (Arr 32 UInt8)) (1)).bind fun (x_14 : (Index × Bool)) =>
    gO (((v2 && (decide ((x_6.length : Int) = (2 : Int)))) == true) = true → 0 ≤ (0 : Int) ∧ (0 : Int) < (x_6.length : Int)) (
    gO ((((v2 && (decide ((x_6.length : Int) = (2 : Int)))) && (decide ((idx x_6 (0 : Int)) = (5 : Int)))) == true) = true → 0 ≤ (1 : Int) ∧ (1 : Int) < (x_6.length : Int)) (
    ((bif ((((((((v2 && (decide ((x_6.length : Int) = (2 : Int)))) && (decide ((idx x_6 (0 : Int)) = (5 : Int)))) && (decide ((idx x_6 (1 : Int)) = (4 : Int)))) && x_8.2) && (((x_8.1).fSum).1 == (⟨[(7 : UInt8), (0 : UInt8), (0 : UInt8), (0 : UInt8), (0 : UInt8), (0 : UInt8), (0 : UInt8), (0 : UInt8), (0 : UInt8), (0 : UInt8), (0 : UInt8), (0 : UInt8), (0 : UInt8), (0 : UInt8), (0 : UInt8), (0 : UInt8), (0 : UInt8), (0 : UInt8), (0 : UInt8), (0 : UInt8), (0 : UInt8), (0 : UInt8), (0 : UInt8), (0 : UInt8), (0 : UInt8), (0 : UInt8), (0 : UInt8), (0 : UInt8), (0 : UInt8), (0 : UInt8), (0 : UInt8), (0 : UInt8)], rfl⟩ : (Arr 32 UInt8)).1)) && (decide ((x_10.2) = (0 : Int)))) && (decide ((x_12.2) = (0 : Int)))) == true) then g_pindex_Index_All (x_12.1) else some default).bind fun (x_18 : (List Row)) =>
    ((bif ((((((((((v2 && (decide ((x_6.length : Int) = (2 : Int)))) && (decide ((idx x_6 (0 : Int)) = (5 : Int)))) && (decide ((idx x_6 (1 : Int)) = (4 : Int)))) && x_8.2) && (((x_8.1).fSum).1 == (⟨[(7 : UInt8), (0 : UInt8), (0 : UInt8), (0 : UInt8), (0 : UInt8), (0 : UInt8), (0 : UInt8), (0 : UInt8), (0 : UInt8), (0 : UInt8), (0 : UInt8), (0 : UInt8), (0 : UInt8), (0 : UInt8), (0 : UInt8), (0 : UInt8), (0 : UInt8), (0 : UInt8), (0 : UInt8), (0 : UInt8), (0 : UInt8), (0 : UInt8), (0 : UInt8), (0 : UInt8), (0 : UInt8), (0 : UInt8), (0 : UInt8), (0 : UInt8), (0 : UInt8), (0 : UInt8), (0 : UInt8), (0 : UInt8)], rfl⟩ : (Arr 32 UInt8)).1)) && (decide ((x_10.2) = (0 : Int)))) && (decide ((x_12.2) = (0 : Int)))) && (decide ((x_18.length : Int) = (9 : Int)))) && x_14.2) == true) then g_pindex_Index_Pages (x_14.1) else some default).bind fun (x_20 : (List Int)) =>
    ((bif (((((((((((v2 && (decide ((x_6.length : Int) = (2 : Int)))) && (decide ((idx x_6 (0 : Int)) = (5 : Int)))) && (decide ((idx x_6 (1 : Int)) = (4 : Int)))) && x_8.2) && (((x_8.1).fSum).1 == (⟨[(7 : UInt8), (0 : UInt8), (0 : UInt8), (0 : UInt8), (0 : UInt8), (0 : UInt8), (0 : UInt8), (0 : UInt8), (0 : UInt8), (0 : UInt8), (0 : UInt8), (0 : UInt8), (0 : UInt8), (0 : UInt8), (0 : UInt8), (0 : UInt8), (0 : UInt8), (0 : UInt8), (0 : UInt8), (0 : UInt8), (0 : UInt8), (0 : UInt8), (0 : UInt8), (0 : UInt8), (0 : UInt8), (0 : UInt8), (0 : UInt8), (0 : UInt8), (0 : UInt8), (0 : UInt8), (0 : UInt8), (0 : UInt8)], rfl⟩ : (Arr 32 UInt8)).1)) && (decide ((x_10.2) = (0 : Int)))) && (decide ((x_12.2) = (0 : Int)))) && (decide ((x_18.length : Int) = (9 : Int)))) && x_14.2) && (decide ((x_20.length : Int) = (1 : Int)))) == true) then g_pindex_Index_Of (⟨v1_0⟩ : Index) (⟨[(3 : UInt8), (0 : UInt8), (0 : UInt8), (0 : UInt8), (0 : UInt8), (0 : UInt8), (0 : UInt8), (0 : UInt8), (0 : UInt8), (0 : UInt8), (0 : UInt8), (0 : UInt8), (0 : UInt8), (0 : UInt8), (0 : UInt8), (0 : UInt8), (0 : UInt8), (0 : UInt8), (0 : UInt8), (0 : UInt8), (0 : UInt8), (0 : UInt8), (0 : UInt8), (0 : UInt8), (0 : UInt8), (0 : UInt8), (0 : UInt8), (0 : UInt8), (0 : UInt8), (0 : UInt8), (0 : UInt8), (0 : UInt8)], rfl⟩ : (Arr 32 UInt8)) else some default).bind fun (x_22 : (List Row)) =>
    some (.inr (((((((((((v2 && (decide ((x_6.length : Int) = (2 : Int)))) && (decide ((idx x_6 (0 : Int)) = (5 : Int)))) && (decide ((idx x_6 (1 : Int)) = (4 : Int)))) && x_8.2) && (((x_8.1).fSum).1 == (⟨[(7 : UInt8), (0 : UInt8), (0 : UInt8), (0 : UInt8), (0 : UInt8), (0 : UInt8), (0 : UInt8), (0 : UInt8), (0 : UInt8), (0 : UInt8), (0 : UInt8), (0 : UInt8), (0 : UInt8), (0 : UInt8), (0 : UInt8), (0 : UInt8), (0 : UInt8), (0 : UInt8), (0 : UInt8), (0 : UInt8), (0 : UInt8), (0 : UInt8), (0 : UInt8), (0 : UInt8), (0 : UInt8), (0 : UInt8), (0 : UInt8), (0 : UInt8), (0 : UInt8), (0 : UInt8), (0 : UInt8), (0 : UInt8)], rfl⟩ : (Arr 32 UInt8)).1)) && (decide ((x_10.2) = (0 : Int)))) && (decide ((x_12.2) = (0 : Int)))) && (decide ((x_18.length : Int) = (9 : Int)))) && x_14.2) && (decide ((x_20.length : Int) = (1 : Int)))) && (decide ((x_22.length : Int) = (1 : Int))))))))))))))))
noncomputable def g_law48_awake  : Option Bool := theC (step_law48_awake ) .S
theorem sim_law48_awake  (r : Bool) (h : g_law48_awake  = some r) : Fun Try.prog 49 [] (.val (.bool r)) := by
  refine Fun.of_bodyQ Try.func49 rfl (by simp [Try.ntmps49]) ?_
  rw [Try.ntmps49, TT.res_49]
  refine QW.view (s' := ⟨tab [], tabH [], 0, []⟩) (View.init (by rfl)) zL ?_
  replace h := theC_get h
  obtain ⟨_, h⟩ := h
  obtain ⟨k_0, rfl, h9⟩ := run_succ h; replace h := h9; clear h9; rw [step_law48_awake] at h
  refine sR ?_
  refine xz 0 (pB false) ?_
  refine sR ?_
  refine xs 1 rfl (sf_alloc (l := [.full (([] : (List (List Row))).map (eL eRow))]) rfl TT.zeroA_71 rfl rfl ?_)
  refine XK.nz ?_
  refine sR ?_
  refine xz 2 (pB true) ?_
  refine QW.seq ?_
  refine sR ?_
  refine xz 3 (pI (0)) ?_
  refine QW.block ?_
  refine QW.loop (fun k σ => ∃ v2 : Bool, ∃ v3 : Int, ∃ v1_0 : (List (List Row)), k ≤ k_0 ∧ run step_law48_awake k (.L1 v2 v3 v1_0) = some r ∧ σ = ⟨tab [(1, .vptr 0 0), (2, pB v2), (3, pI v3)], tabH [.var [.d (.slice (v1_0.map (eL eRow)))]], 1, []⟩) k_0 zL ⟨⟨tab [(1, .vptr 0 0), (2, pB true), (3, pI (0))], tabH [.var [.d (.slice (([] : (List (List Row))).map (eL eRow)))]], 1, []⟩, View.trans (View.castV 0 0 rfl rfl rfl zL) (View.mk 1 [0] _ _ _ rfl rfl (by decide) (iC (iC (iC trivial))) (And.intro rfl trivial) rfl zL rfl), true, 0, ([] : (List (List Row))), Nat.le_refl _, jG h, rfl⟩ ?_
  rintro k_1s _ ⟨v2, v3, v1_0, k_1h, h, rfl⟩
  obtain ⟨k_1, rfl, h9⟩ := run_succ h; replace h := h9; clear h9; rw [step_law48_awake] at h
  refine QW.seq ?_
  refine sR ?_
  refine xm 15 (pI v3) ?_
  refine xs 16 rfl (sf_lss (a := v3) (b := (9 : Int)) rfl rfl rfl ?_)
  refine XK.nz ?_
  refine QW.cond (t := (decide (v3 < (9 : Int)))) rfl zL (fun hb_2 => ?_) (fun hb_2 => ?_)
  · replace h := bGT h hb_2
    refine QW.skip zL (nrm ?_)
    refine QW.seq ?_
    refine QW.block ?_
    refine sR ?_
    refine XK.as (some 20) rfl rfl (sf_ldV (v := .agg [.d (.slice (v1_0.map (eL eRow)))]) rfl TT.tyA_71 rfl rfl ⟨⟨by simp, by simp⟩, rfl⟩ ⟨.d (.agg (cIndex (⟨v1_0⟩ : Index))), (Imp.toD rfl), ?_⟩)
    refine xm 21 (pI v3) ?_
    refine xs 22 rfl (sf_toU8 (n := v3) rfl TT.under_3 TT.under_5 rfl ?_)
    refine XK.as (some 23) rfl rfl (sf_build (v := .agg [.d (.val (.int .u8 ((u8I v3).toNat : Int))), .d (.val (.int .u8 ((0 : UInt8).toNat : Int))), .d (.val (.int .u8 ((0 : UInt8).toNat : Int))), .d (.val (.int .u8 ((0 : UInt8).toNat : Int))), .d (.val (.int .u8 ((0 : UInt8).toNat : Int))), .d (.val (.int .u8 ((0 : UInt8).toNat : Int))), .d (.val (.int .u8 ((0 : UInt8).toNat : Int))), .d (.val (.int .u8 ((0 : UInt8).toNat : Int))), .d (.val (.int .u8 ((0 : UInt8).toNat : Int))), .d (.val (.int .u8 ((0 : UInt8).toNat : Int))), .d (.val (.int .u8 ((0 : UInt8).toNat : Int))), .d (.val (.int .u8 ((0 : UInt8).toNat : Int))), .d (.val (.int .u8 ((0 : UInt8).toNat : Int))), .d (.val (.int .u8 ((0 : UInt8).toNat : Int))), .d (.val (.int .u8 ((0 : UInt8).toNat : Int))), .d (.val (.int .u8 ((0 : UInt8).toNat : Int))), .d (.val (.int .u8 ((0 : UInt8).toNat : Int))), .d (.val (.int .u8 ((0 : UInt8).toNat : Int))), .d (.val (.int .u8 ((0 : UInt8).toNat : Int))), .d (.val (.int .u8 ((0 : UInt8).toNat : Int))), .d (.val (.int .u8 ((0 : UInt8).toNat : Int))), .d (.val (.int .u8 ((0 : UInt8).toNat : Int))), .d (.val (.int .u8 ((0 : UInt8).toNat : Int))), .d (.val (.int .u8 ((0 : UInt8).toNat : Int))), .d (.val (.int .u8 ((0 : UInt8).toNat : Int))), .d (.val (.int .u8 ((0 : UInt8).toNat : Int))), .d (.val (.int .u8 ((0 : UInt8).toNat : Int))), .d (.val (.int .u8 ((0 : UInt8).toNat : Int))), .d (.val (.int .u8 ((0 : UInt8).toNat : Int))), .d (.val (.int .u8 ((0 : UInt8).toNat : Int))), .d (.val (.int .u8 ((0 : UInt8).toNat : Int))), .d (.val (.int .u8 ((0 : UInt8).toNat : Int)))]) rfl (by rw [TT.bldA_35]; simp [buildP, fillP, placeOf, partsQ, evP, PV.solid, PV.cellsP, Value.oneCell', spl, cellV, ofVal, List.all, putS_at, tab, unS, unT, asCond, unC]) (by rw [TT.bldA_35]; rfl) ⟨.d (.agg ((⟨[(u8I v3), (0 : UInt8), (0 : UInt8), (0 : UInt8), (0 : UInt8), (0 : UInt8), (0 : UInt8), (0 : UInt8), (0 : UInt8), (0 : UInt8), (0 : UInt8), (0 : UInt8), (0 : UInt8), (0 : UInt8), (0 : UInt8), (0 : UInt8), (0 : UInt8), (0 : UInt8), (0 : UInt8), (0 : UInt8), (0 : UInt8), (0 : UInt8), (0 : UInt8), (0 : UInt8), (0 : UInt8), (0 : UInt8), (0 : UInt8), (0 : UInt8), (0 : UInt8), (0 : UInt8), (0 : UInt8), (0 : UInt8)], rfl⟩ : (Arr 32 UInt8)).1.map byteD)), (Imp.toD rfl), ?_⟩)
    refine XK.as (some 24) rfl rfl (sf_bld (v := .agg ((cRow (⟨(⟨[(u8I v3), (0 : UInt8), (0 : UInt8), (0 : UInt8), (0 : UInt8), (0 : UInt8), (0 : UInt8), (0 : UInt8), (0 : UInt8), (0 : UInt8), (0 : UInt8), (0 : UInt8), (0 : UInt8), (0 : UInt8), (0 : UInt8), (0 : UInt8), (0 : UInt8), (0 : UInt8), (0 : UInt8), (0 : UInt8), (0 : UInt8), (0 : UInt8), (0 : UInt8), (0 : UInt8), (0 : UInt8), (0 : UInt8), (0 : UInt8), (0 : UInt8), (0 : UInt8), (0 : UInt8), (0 : UInt8), (0 : UInt8)], rfl⟩ : (Arr 32 UInt8)), 1, ([] : List UInt8)⟩ : Row)).map .d)) rfl TT.bldA_37 (bld_Row_0_1 (⟨[(u8I v3), (0 : UInt8), (0 : UInt8), (0 : UInt8), (0 : UInt8), (0 : UInt8), (0 : UInt8), (0 : UInt8), (0 : UInt8), (0 : UInt8), (0 : UInt8), (0 : UInt8), (0 : UInt8), (0 : UInt8), (0 : UInt8), (0 : UInt8), (0 : UInt8), (0 : UInt8), (0 : UInt8), (0 : UInt8), (0 : UInt8), (0 : UInt8), (0 : UInt8), (0 : UInt8), (0 : UInt8), (0 : UInt8), (0 : UInt8), (0 : UInt8), (0 : UInt8), (0 : UInt8), (0 : UInt8), (0 : UInt8)], rfl⟩ : (Arr 32 UInt8)) (1)) ⟨.d (.agg (cRow (⟨(⟨[(u8I v3), (0 : UInt8), (0 : UInt8), (0 : UInt8), (0 : UInt8), (0 : UInt8), (0 : UInt8), (0 : UInt8), (0 : UInt8), (0 : UInt8), (0 : UInt8), (0 : UInt8), (0 : UInt8), (0 : UInt8), (0 : UInt8), (0 : UInt8), (0 : UInt8), (0 : UInt8), (0 : UInt8), (0 : UInt8), (0 : UInt8), (0 : UInt8), (0 : UInt8), (0 : UInt8), (0 : UInt8), (0 : UInt8), (0 : UInt8), (0 : UInt8), (0 : UInt8), (0 : UInt8), (0 : UInt8), (0 : UInt8)], rfl⟩ : (Arr 32 UInt8)), 1, ([] : List UInt8)⟩ : Row))), imp_arr, ?_⟩)
    obtain ⟨x_3, hx_4, h⟩ := bG h
    refine xs 25 rfl (sf_call rfl rfl TT.enters_53 rfl (sim_pindex_Index_Put (⟨v1_0⟩ : Index) (⟨(⟨[(u8I v3), (0 : UInt8), (0 : UInt8), (0 : UInt8), (0 : UInt8), (0 : UInt8), (0 : UInt8), (0 : UInt8), (0 : UInt8), (0 : UInt8), (0 : UInt8), (0 : UInt8), (0 : UInt8), (0 : UInt8), (0 : UInt8), (0 : UInt8), (0 : UInt8), (0 : UInt8), (0 : UInt8), (0 : UInt8), (0 : UInt8), (0 : UInt8), (0 : UInt8), (0 : UInt8), (0 : UInt8), (0 : UInt8), (0 : UInt8), (0 : UInt8), (0 : UInt8), (0 : UInt8), (0 : UInt8), (0 : UInt8)], rfl⟩ : (Arr 32 UInt8)), 1, ([] : List UInt8)⟩ : Row) _ hx_4) ?_)
    refine xm 19 (.d (.tuple [.agg (cIndex (x_3.1)), .val (.bool (x_3.2))])) ?_
    refine xs 26 rfl (sf_extract rfl rfl rfl ?_)
    refine xs 27 rfl (sf_extract rfl rfl rfl ?_)
    refine xs 4 rfl (sf_alloc (l := [.full (([] : (List (List Row))).map (eL eRow))]) rfl TT.zeroA_71 rfl rfl ?_)
    refine XK.st none rfl rfl (sf_stV (l' := [.d (.slice (((x_3.1).fpages).map (eL eRow)))]) rfl TT.tyA_71 rfl rfl rfl rfl rfl rfl (by simp) rfl ?_)
    refine xz 5 (pB (x_3.2)) ?_
    refine sR ?_
    refine xm 28 (pB v2) ?_
    refine xm 29 (pB v2) ?_
    refine xg 30 (pB (x_3.2)) rfl rfl (fun hg => sf_move (v := pB (x_3.2)) rfl rfl g3) ?_
    refine xs 31 rfl (sf_pickA rfl rfl rfl rfl (fun hb => by rw [hb]; rfl) (fun _ => rfl) ?_)
    refine xz 2 (pB (v2 && x_3.2)) ?_
    refine QW.view (s' := ⟨tab [(1, .vptr 0 0), (2, pB (v2 && x_3.2)), (3, pI v3), (4, .vptr 1 0)], tabH [.var [.d (.slice (v1_0.map (eL eRow)))], .var [.d (.slice (((x_3.1).fpages).map (eL eRow)))]], 2, []⟩) (View.mk 2 [0, 1] _ _ _ rfl rfl (by decide) (iC (iC (iC (iC trivial)))) (And.intro rfl (And.intro rfl trivial)) rfl zL rfl) zL ?_
    refine rG ?_
    refine XK.as (some 32) rfl rfl (sf_ldV (v := .agg [.d (.slice (((x_3.1).fpages).map (eL eRow)))]) rfl TT.tyA_71 rfl rfl ⟨⟨by simp, by simp⟩, rfl⟩ ⟨.d (.agg (cIndex (x_3.1))), (Imp.toD rfl), ?_⟩)
    refine XK.st none rfl rfl (sf_stV (l' := [.d (.slice (((x_3.1).fpages).map (eL eRow)))]) rfl TT.tyA_71 rfl rfl rfl rfl rfl rfl (by simp) rfl ?_)
    refine XK.nil (blN (nrm ?_))
    refine rG ?_
    refine xm 17 (pI v3) ?_
    obtain ⟨c_5, h⟩ := gG h
    refine xs 18 rfl (sf_add (a := v3) (b := (1 : Int)) rfl rfl rfl c_5 ?_)
    refine xz 3 (pI (v3 + (1 : Int))) ?_
    exact ⟨k_1, by omega, ⟨tab [(1, .vptr 0 0), (2, pB (v2 && x_3.2)), (3, pI (v3 + (1 : Int)))], tabH [.var [.d (.slice (((x_3.1).fpages).map (eL eRow)))]], 1, []⟩, View.mk 1 [0] _ _ _ rfl rfl (by decide) (iC (iC (iC trivial))) (And.intro rfl trivial) rfl zL rfl, (v2 && x_3.2), (v3 + (1 : Int)), (x_3.1).fpages, by omega, jG h, rfl⟩
  · replace h := bGF h hb_2
    refine QW.exit zL (thX (thX (exE (nrm ?_))))
    refine sR ?_
    refine XK.as (some 33) rfl rfl (sf_ldV (v := .agg [.d (.slice (v1_0.map (eL eRow)))]) rfl TT.tyA_71 rfl rfl ⟨⟨by simp, by simp⟩, rfl⟩ ⟨.d (.agg (cIndex (⟨v1_0⟩ : Index))), (Imp.toD rfl), ?_⟩)
    obtain ⟨x_6, hx_7, h⟩ := bG h
    refine xs 34 rfl (sf_call rfl rfl TT.enters_55 rfl (sim_pindex_Index_Pages (⟨v1_0⟩ : Index) _ hx_7) ?_)
    refine xz 6 (.d (.slice (x_6.map eI))) ?_
    refine sR ?_
    refine XK.as (some 36) rfl rfl (sf_ldV (v := .agg [.d (.slice (v1_0.map (eL eRow)))]) rfl TT.tyA_71 rfl rfl ⟨⟨by simp, by simp⟩, rfl⟩ ⟨.d (.agg (cIndex (⟨v1_0⟩ : Index))), (Imp.toD rfl), ?_⟩)
    refine XK.as (some 37) rfl rfl (sf_build (v := .agg [.d (.val (.int .u8 ((7 : UInt8).toNat : Int))), .d (.val (.int .u8 ((0 : UInt8).toNat : Int))), .d (.val (.int .u8 ((0 : UInt8).toNat : Int))), .d (.val (.int .u8 ((0 : UInt8).toNat : Int))), .d (.val (.int .u8 ((0 : UInt8).toNat : Int))), .d (.val (.int .u8 ((0 : UInt8).toNat : Int))), .d (.val (.int .u8 ((0 : UInt8).toNat : Int))), .d (.val (.int .u8 ((0 : UInt8).toNat : Int))), .d (.val (.int .u8 ((0 : UInt8).toNat : Int))), .d (.val (.int .u8 ((0 : UInt8).toNat : Int))), .d (.val (.int .u8 ((0 : UInt8).toNat : Int))), .d (.val (.int .u8 ((0 : UInt8).toNat : Int))), .d (.val (.int .u8 ((0 : UInt8).toNat : Int))), .d (.val (.int .u8 ((0 : UInt8).toNat : Int))), .d (.val (.int .u8 ((0 : UInt8).toNat : Int))), .d (.val (.int .u8 ((0 : UInt8).toNat : Int))), .d (.val (.int .u8 ((0 : UInt8).toNat : Int))), .d (.val (.int .u8 ((0 : UInt8).toNat : Int))), .d (.val (.int .u8 ((0 : UInt8).toNat : Int))), .d (.val (.int .u8 ((0 : UInt8).toNat : Int))), .d (.val (.int .u8 ((0 : UInt8).toNat : Int))), .d (.val (.int .u8 ((0 : UInt8).toNat : Int))), .d (.val (.int .u8 ((0 : UInt8).toNat : Int))), .d (.val (.int .u8 ((0 : UInt8).toNat : Int))), .d (.val (.int .u8 ((0 : UInt8).toNat : Int))), .d (.val (.int .u8 ((0 : UInt8).toNat : Int))), .d (.val (.int .u8 ((0 : UInt8).toNat : Int))), .d (.val (.int .u8 ((0 : UInt8).toNat : Int))), .d (.val (.int .u8 ((0 : UInt8).toNat : Int))), .d (.val (.int .u8 ((0 : UInt8).toNat : Int))), .d (.val (.int .u8 ((0 : UInt8).toNat : Int))), .d (.val (.int .u8 ((0 : UInt8).toNat : Int)))]) rfl (by rw [TT.bldA_35]; simp [buildP, fillP, placeOf, partsQ, evP, PV.solid, PV.cellsP, Value.oneCell', spl, cellV, ofVal, List.all, putS_at, tab, unS, unT, asCond, unC]) (by rw [TT.bldA_35]; rfl) ⟨.d (.agg ((⟨[(7 : UInt8), (0 : UInt8), (0 : UInt8), (0 : UInt8), (0 : UInt8), (0 : UInt8), (0 : UInt8), (0 : UInt8), (0 : UInt8), (0 : UInt8), (0 : UInt8), (0 : UInt8), (0 : UInt8), (0 : UInt8), (0 : UInt8), (0 : UInt8), (0 : UInt8), (0 : UInt8), (0 : UInt8), (0 : UInt8), (0 : UInt8), (0 : UInt8), (0 : UInt8), (0 : UInt8), (0 : UInt8), (0 : UInt8), (0 : UInt8), (0 : UInt8), (0 : UInt8), (0 : UInt8), (0 : UInt8), (0 : UInt8)], rfl⟩ : (Arr 32 UInt8)).1.map byteD)), (Imp.toD rfl), ?_⟩)
    obtain ⟨x_8, hx_9, h⟩ := bG h
    refine xs 38 rfl (sf_call rfl rfl TT.enters_58 rfl (sim_pindex_Index_Get (⟨v1_0⟩ : Index) (⟨[(7 : UInt8), (0 : UInt8), (0 : UInt8), (0 : UInt8), (0 : UInt8), (0 : UInt8), (0 : UInt8), (0 : UInt8), (0 : UInt8), (0 : UInt8), (0 : UInt8), (0 : UInt8), (0 : UInt8), (0 : UInt8), (0 : UInt8), (0 : UInt8), (0 : UInt8), (0 : UInt8), (0 : UInt8), (0 : UInt8), (0 : UInt8), (0 : UInt8), (0 : UInt8), (0 : UInt8), (0 : UInt8), (0 : UInt8), (0 : UInt8), (0 : UInt8), (0 : UInt8), (0 : UInt8), (0 : UInt8), (0 : UInt8)], rfl⟩ : (Arr 32 UInt8)) (1) _ hx_9) ?_)
    refine xm 35 (.d (.tuple [.agg (cRow (x_8.1)), .val (.bool (x_8.2))])) ?_
    refine xs 39 rfl (sf_extract rfl rfl rfl ?_)
    refine xs 40 rfl (sf_extract rfl rfl rfl ?_)
    refine xs 7 rfl (sf_alloc (l := ((cRow (⟨(Arr.rep 32 (0 : UInt8)), (0 : Int), ([] : (List UInt8))⟩ : Row)).map .d)) rfl TT.zeroA_37 rfl rfl ?_)
    refine XK.st none rfl rfl (sf_stV (l' := ((cRow (x_8.1)).map .d)) rfl TT.tyA_37 rfl rfl rfl rfl rfl (len_dd (lay_Row.len _)) (le_dd (lay_Row.len _)) (spl_dd ((lay_Row.len _).trans (lay_Row.len _).symm)) ?_)
    refine xz 8 (pB (x_8.2)) ?_
    refine sR ?_
    refine XK.as (some 42) rfl rfl (sf_ldV (v := .agg [.d (.slice (v1_0.map (eL eRow)))]) rfl TT.tyA_71 rfl rfl ⟨⟨by simp, by simp⟩, rfl⟩ ⟨.d (.agg (cIndex (⟨v1_0⟩ : Index))), (Imp.toD rfl), ?_⟩)
    obtain ⟨x_10, hx_11, h⟩ := bG h
    refine xs 43 rfl (sf_call rfl rfl TT.enters_59 rfl (sim_pindex_Index_Text (⟨v1_0⟩ : Index) _ hx_11) ?_)
    refine xm 41 (.d (.tuple [.val (sV (x_10.1)), .val (.int .i64 (x_10.2))])) ?_
    refine xs 44 rfl (sf_extract rfl rfl rfl ?_)
    refine xs 45 rfl (sf_extract rfl rfl rfl ?_)
    refine xa 9 (pS (x_10.1)) ?_
    refine xz 10 (pI (x_10.2)) ?_
    refine QW.seq ?_
    refine QW.view (s' := ⟨tab [(1, .vptr 0 0), (2, pB v2), (6, .d (.slice (x_6.map eI))), (7, .vptr 1 0), (8, pB (x_8.2)), (9, pS (x_10.1)), (10, pI (x_10.2))], tabH [.var [.d (.slice (v1_0.map (eL eRow)))], .var ((cRow (x_8.1)).map .d)], 2, []⟩) (View.mk 2 [0, 1] _ _ _ rfl rfl (by decide) (iC (iC (iC (iC (iC (iC (iC trivial))))))) (And.intro rfl (And.intro (by simp only [atH1, rowC, PV.res_d]; rfl) trivial)) rfl zL rfl) zL ?_
    refine rG ?_
    refine xm 47 (pS (x_10.1)) ?_
    obtain ⟨x_12, hx_13, h⟩ := bG h
    refine xs 48 rfl (sf_call rfl rfl TT.enters_60 rfl (sim_pindex_Load (x_10.1) _ hx_13) ?_)
    refine xm 46 (.d (.tuple [.agg (cIndex (x_12.1)), .val (.int .i64 (x_12.2))])) ?_
    refine xs 49 rfl (sf_extract rfl rfl rfl ?_)
    refine xs 50 rfl (sf_extract rfl rfl rfl ?_)
    refine xs 11 rfl (sf_alloc (l := [.full (([] : (List (List Row))).map (eL eRow))]) rfl TT.zeroA_71 rfl rfl ?_)
    refine XK.st none rfl rfl (sf_stV (l' := [.d (.slice (((x_12.1).fpages).map (eL eRow)))]) rfl TT.tyA_71 rfl rfl rfl rfl rfl rfl (by simp) rfl ?_)
    refine xz 12 (pI (x_12.2)) ?_
    refine sR ?_
    refine XK.as (some 52) rfl rfl (sf_ldV (v := .agg [.d (.slice (v1_0.map (eL eRow)))]) rfl TT.tyA_71 rfl rfl ⟨⟨by simp, by simp⟩, rfl⟩ ⟨.d (.agg (cIndex (⟨v1_0⟩ : Index))), (Imp.toD rfl), ?_⟩)
    refine XK.as (some 53) rfl rfl (sf_build (v := .agg [.d (.val (.int .u8 ((0 : UInt8).toNat : Int))), .d (.val (.int .u8 ((0 : UInt8).toNat : Int))), .d (.val (.int .u8 ((0 : UInt8).toNat : Int))), .d (.val (.int .u8 ((0 : UInt8).toNat : Int))), .d (.val (.int .u8 ((0 : UInt8).toNat : Int))), .d (.val (.int .u8 ((0 : UInt8).toNat : Int))), .d (.val (.int .u8 ((0 : UInt8).toNat : Int))), .d (.val (.int .u8 ((0 : UInt8).toNat : Int))), .d (.val (.int .u8 ((0 : UInt8).toNat : Int))), .d (.val (.int .u8 ((0 : UInt8).toNat : Int))), .d (.val (.int .u8 ((0 : UInt8).toNat : Int))), .d (.val (.int .u8 ((0 : UInt8).toNat : Int))), .d (.val (.int .u8 ((0 : UInt8).toNat : Int))), .d (.val (.int .u8 ((0 : UInt8).toNat : Int))), .d (.val (.int .u8 ((0 : UInt8).toNat : Int))), .d (.val (.int .u8 ((0 : UInt8).toNat : Int))), .d (.val (.int .u8 ((0 : UInt8).toNat : Int))), .d (.val (.int .u8 ((0 : UInt8).toNat : Int))), .d (.val (.int .u8 ((0 : UInt8).toNat : Int))), .d (.val (.int .u8 ((0 : UInt8).toNat : Int))), .d (.val (.int .u8 ((0 : UInt8).toNat : Int))), .d (.val (.int .u8 ((0 : UInt8).toNat : Int))), .d (.val (.int .u8 ((0 : UInt8).toNat : Int))), .d (.val (.int .u8 ((0 : UInt8).toNat : Int))), .d (.val (.int .u8 ((0 : UInt8).toNat : Int))), .d (.val (.int .u8 ((0 : UInt8).toNat : Int))), .d (.val (.int .u8 ((0 : UInt8).toNat : Int))), .d (.val (.int .u8 ((0 : UInt8).toNat : Int))), .d (.val (.int .u8 ((0 : UInt8).toNat : Int))), .d (.val (.int .u8 ((0 : UInt8).toNat : Int))), .d (.val (.int .u8 ((0 : UInt8).toNat : Int))), .d (.val (.int .u8 ((0 : UInt8).toNat : Int)))]) rfl (by rw [TT.bldA_35]; simp [buildP, fillP, placeOf, partsQ, evP, PV.solid, PV.cellsP, Value.oneCell', spl, cellV, ofVal, List.all, putS_at, tab, unS, unT, asCond, unC]) (by rw [TT.bldA_35]; rfl) ⟨.d (.agg ((⟨[(0 : UInt8), (0 : UInt8), (0 : UInt8), (0 : UInt8), (0 : UInt8), (0 : UInt8), (0 : UInt8), (0 : UInt8), (0 : UInt8), (0 : UInt8), (0 : UInt8), (0 : UInt8), (0 : UInt8), (0 : UInt8), (0 : UInt8), (0 : UInt8), (0 : UInt8), (0 : UInt8), (0 : UInt8), (0 : UInt8), (0 : UInt8), (0 : UInt8), (0 : UInt8), (0 : UInt8), (0 : UInt8), (0 : UInt8), (0 : UInt8), (0 : UInt8), (0 : UInt8), (0 : UInt8), (0 : UInt8), (0 : UInt8)], rfl⟩ : (Arr 32 UInt8)).1.map byteD)), (Imp.toD rfl), ?_⟩)
    obtain ⟨x_14, hx_15, h⟩ := bG h
    refine xs 54 rfl (sf_call rfl rfl TT.enters_51 rfl (sim_pindex_Index_Drop (⟨v1_0⟩ : Index) (⟨[(0 : UInt8), (0 : UInt8), (0 : UInt8), (0 : UInt8), (0 : UInt8), (0 : UInt8), (0 : UInt8), (0 : UInt8), (0 : UInt8), (0 : UInt8), (0 : UInt8), (0 : UInt8), (0 : UInt8), (0 : UInt8), (0 : UInt8), (0 : UInt8), (0 : UInt8), (0 : UInt8), (0 : UInt8), (0 : UInt8), (0 : UInt8), (0 : UInt8), (0 : UInt8), (0 : UInt8), (0 : UInt8), (0 : UInt8), (0 : UInt8), (0 : UInt8), (0 : UInt8), (0 : UInt8), (0 : UInt8), (0 : UInt8)], rfl⟩ : (Arr 32 UInt8)) (1) _ hx_15) ?_)
    refine xm 51 (.d (.tuple [.agg (cIndex (x_14.1)), .val (.bool (x_14.2))])) ?_
    refine xs 55 rfl (sf_extract rfl rfl rfl ?_)
    refine xs 56 rfl (sf_extract rfl rfl rfl ?_)
    refine xs 13 rfl (sf_alloc (l := [.full (([] : (List (List Row))).map (eL eRow))]) rfl TT.zeroA_71 rfl rfl ?_)
    refine XK.st none rfl rfl (sf_stV (l' := [.d (.slice (((x_14.1).fpages).map (eL eRow)))]) rfl TT.tyA_71 rfl rfl rfl rfl rfl rfl (by simp) rfl ?_)
    refine xz 14 (pB (x_14.2)) ?_
    refine QW.seq ?_
    refine QW.view (s' := ⟨tab [(1, .vptr 0 0), (2, pB v2), (6, .d (.slice (x_6.map eI))), (7, .vptr 1 0), (8, pB (x_8.2)), (10, pI (x_10.2)), (11, .vptr 2 0), (12, pI (x_12.2)), (13, .vptr 3 0), (14, pB (x_14.2))], tabH [.var [.d (.slice (v1_0.map (eL eRow)))], .var ((cRow (x_8.1)).map .d), .var [.d (.slice (((x_12.1).fpages).map (eL eRow)))], .var [.d (.slice (((x_14.1).fpages).map (eL eRow)))]], 4, []⟩) (View.mk 4 [0, 1, 2, 3] _ _ _ rfl rfl (by decide) (iC (iC (iC (iC (iC (iC (iC (iC (iC (iC trivial)))))))))) (And.intro rfl (And.intro (by simp only [atH1, rowC, PV.res_d]; rfl) (And.intro rfl (And.intro rfl trivial)))) rfl zL rfl) zL ?_
    refine rG ?_
    refine xm 57 (pB v2) ?_
    refine xm 58 (pB v2) ?_
    refine xg 59 (.d (.slice (x_6.map eI))) rfl rfl (fun hg => sf_move (v := .d (.slice (x_6.map eI))) rfl rfl g3) ?_
    refine xg 60 (pI (x_6.length : Int)) rfl rfl (fun hg => sf_lenL (en := eI) (l := x_6) rfl TT.under_81 rfl g3) ?_
    refine xg 61 (pB (decide ((x_6.length : Int) = (2 : Int)))) rfl rfl (fun hg => sf_eq (a := (x_6.length : Int)) (b := (2 : Int)) rfl rfl rfl g3) ?_
    refine xs 62 rfl (sf_pickA rfl rfl rfl rfl (fun hb => by rw [hb]; rfl) (fun _ => rfl) ?_)
    refine xm 63 (pB (v2 && (decide ((x_6.length : Int) = (2 : Int))))) ?_
    refine xg 64 (.d (.slice (x_6.map eI))) rfl rfl (fun hg => sf_move (v := .d (.slice (x_6.map eI))) rfl rfl g3) ?_
    obtain ⟨c_16, h⟩ := gG h
    refine xg 65 (.d (.cptr ([.val (.int .i64 (idx x_6 (0 : Int)))]))) rfl rfl (fun hg => sf_idxA (l := x_6) (i := (0 : Int)) rfl TT.slcA_81 lay_I rfl rfl (c_16 hg) g3) ?_
    refine xg 66 (pI (idx x_6 (0 : Int))) rfl rfl (fun hg => sf_ldC (d := .val (.int .i64 (idx x_6 (0 : Int)))) rfl TT.tyA_3 rfl (LdC.one) g3) ?_
    refine xg 67 (pB (decide ((idx x_6 (0 : Int)) = (5 : Int)))) rfl rfl (fun hg => sf_eq (a := (idx x_6 (0 : Int))) (b := (5 : Int)) rfl rfl rfl g3) ?_
    refine xs 68 rfl (sf_pickA rfl rfl rfl rfl (fun hb => by rw [hb]; rfl) (fun _ => rfl) ?_)
    refine xm 69 (pB ((v2 && (decide ((x_6.length : Int) = (2 : Int)))) && (decide ((idx x_6 (0 : Int)) = (5 : Int))))) ?_
    refine xg 70 (.d (.slice (x_6.map eI))) rfl rfl (fun hg => sf_move (v := .d (.slice (x_6.map eI))) rfl rfl g3) ?_
    obtain ⟨c_17, h⟩ := gG h
    refine xg 71 (.d (.cptr ([.val (.int .i64 (idx x_6 (1 : Int)))]))) rfl rfl (fun hg => sf_idxA (l := x_6) (i := (1 : Int)) rfl TT.slcA_81 lay_I rfl rfl (c_17 hg) g3) ?_
    refine xg 72 (pI (idx x_6 (1 : Int))) rfl rfl (fun hg => sf_ldC (d := .val (.int .i64 (idx x_6 (1 : Int)))) rfl TT.tyA_3 rfl (LdC.one) g3) ?_
    refine xg 73 (pB (decide ((idx x_6 (1 : Int)) = (4 : Int)))) rfl rfl (fun hg => sf_eq (a := (idx x_6 (1 : Int))) (b := (4 : Int)) rfl rfl rfl g3) ?_
    refine xs 74 rfl (sf_pickA rfl rfl rfl rfl (fun hb => by rw [hb]; rfl) (fun _ => rfl) ?_)
    refine xm 75 (pB (((v2 && (decide ((x_6.length : Int) = (2 : Int)))) && (decide ((idx x_6 (0 : Int)) = (5 : Int)))) && (decide ((idx x_6 (1 : Int)) = (4 : Int))))) ?_
    refine xg 76 (pB (x_8.2)) rfl rfl (fun hg => sf_move (v := pB (x_8.2)) rfl rfl g3) ?_
    refine xs 77 rfl (sf_pickA rfl rfl rfl rfl (fun hb => by rw [hb]; rfl) (fun _ => rfl) ?_)
    refine xm 78 (pB ((((v2 && (decide ((x_6.length : Int) = (2 : Int)))) && (decide ((idx x_6 (0 : Int)) = (5 : Int)))) && (decide ((idx x_6 (1 : Int)) = (4 : Int)))) && x_8.2)) ?_
    refine xg 79 (.vptr 1 0) rfl rfl (fun hg => sf_fldV rfl TT.fldA_37_0 (by decide) rfl g3) ?_
    refine XK.gd (v := .d (.agg (((x_8.1).fSum).1.map byteD))) (T := [1]) (some 80) rfl rfl (by repeat (first | exact trivial | refine ⟨fun q => by first | rfl | exact q | exact cda q | exact cdb q, ?_⟩)) (fun hg => sf_ldV rfl TT.tyA_35 rfl rfl (ldv_ldcA (ldc_Row_0 _) (by rw [lay_Row.len]; decide) (by decide)) ⟨⟨rfl, rfl, rfl⟩, rfl, imp_arr⟩) (fun _ i hi => by simp only [List.mem_singleton] at hi; subst hi; decide) ?_
    refine xg 81 (.d (.agg ((⟨[(7 : UInt8), (0 : UInt8), (0 : UInt8), (0 : UInt8), (0 : UInt8), (0 : UInt8), (0 : UInt8), (0 : UInt8), (0 : UInt8), (0 : UInt8), (0 : UInt8), (0 : UInt8), (0 : UInt8), (0 : UInt8), (0 : UInt8), (0 : UInt8), (0 : UInt8), (0 : UInt8), (0 : UInt8), (0 : UInt8), (0 : UInt8), (0 : UInt8), (0 : UInt8), (0 : UInt8), (0 : UInt8), (0 : UInt8), (0 : UInt8), (0 : UInt8), (0 : UInt8), (0 : UInt8), (0 : UInt8), (0 : UInt8)], rfl⟩ : (Arr 32 UInt8)).1.map byteD))) rfl rfl (fun hg => sf_build (v := .agg [.d (.val (.int .u8 ((7 : UInt8).toNat : Int))), .d (.val (.int .u8 ((0 : UInt8).toNat : Int))), .d (.val (.int .u8 ((0 : UInt8).toNat : Int))), .d (.val (.int .u8 ((0 : UInt8).toNat : Int))), .d (.val (.int .u8 ((0 : UInt8).toNat : Int))), .d (.val (.int .u8 ((0 : UInt8).toNat : Int))), .d (.val (.int .u8 ((0 : UInt8).toNat : Int))), .d (.val (.int .u8 ((0 : UInt8).toNat : Int))), .d (.val (.int .u8 ((0 : UInt8).toNat : Int))), .d (.val (.int .u8 ((0 : UInt8).toNat : Int))), .d (.val (.int .u8 ((0 : UInt8).toNat : Int))), .d (.val (.int .u8 ((0 : UInt8).toNat : Int))), .d (.val (.int .u8 ((0 : UInt8).toNat : Int))), .d (.val (.int .u8 ((0 : UInt8).toNat : Int))), .d (.val (.int .u8 ((0 : UInt8).toNat : Int))), .d (.val (.int .u8 ((0 : UInt8).toNat : Int))), .d (.val (.int .u8 ((0 : UInt8).toNat : Int))), .d (.val (.int .u8 ((0 : UInt8).toNat : Int))), .d (.val (.int .u8 ((0 : UInt8).toNat : Int))), .d (.val (.int .u8 ((0 : UInt8).toNat : Int))), .d (.val (.int .u8 ((0 : UInt8).toNat : Int))), .d (.val (.int .u8 ((0 : UInt8).toNat : Int))), .d (.val (.int .u8 ((0 : UInt8).toNat : Int))), .d (.val (.int .u8 ((0 : UInt8).toNat : Int))), .d (.val (.int .u8 ((0 : UInt8).toNat : Int))), .d (.val (.int .u8 ((0 : UInt8).toNat : Int))), .d (.val (.int .u8 ((0 : UInt8).toNat : Int))), .d (.val (.int .u8 ((0 : UInt8).toNat : Int))), .d (.val (.int .u8 ((0 : UInt8).toNat : Int))), .d (.val (.int .u8 ((0 : UInt8).toNat : Int))), .d (.val (.int .u8 ((0 : UInt8).toNat : Int))), .d (.val (.int .u8 ((0 : UInt8).toNat : Int)))]) rfl (by rw [TT.bldA_35]; simp [buildP, fillP, placeOf, partsQ, evP, PV.solid, PV.cellsP, Value.oneCell', spl, cellV, ofVal, List.all, putS_at, tab, unS, unT, asCond, unC]) (by rw [TT.bldA_35]; rfl) ⟨⟨rfl, rfl, rfl⟩, rfl, (Imp.toD rfl)⟩) ?_
    refine xg 82 (pB (((x_8.1).fSum).1 == (⟨[(7 : UInt8), (0 : UInt8), (0 : UInt8), (0 : UInt8), (0 : UInt8), (0 : UInt8), (0 : UInt8), (0 : UInt8), (0 : UInt8), (0 : UInt8), (0 : UInt8), (0 : UInt8), (0 : UInt8), (0 : UInt8), (0 : UInt8), (0 : UInt8), (0 : UInt8), (0 : UInt8), (0 : UInt8), (0 : UInt8), (0 : UInt8), (0 : UInt8), (0 : UInt8), (0 : UInt8), (0 : UInt8), (0 : UInt8), (0 : UInt8), (0 : UInt8), (0 : UInt8), (0 : UInt8), (0 : UInt8), (0 : UInt8)], rfl⟩ : (Arr 32 UInt8)).1)) rfl rfl (fun hg => sf_arreq (p := (x_8.1).fSum) (q := (⟨[(7 : UInt8), (0 : UInt8), (0 : UInt8), (0 : UInt8), (0 : UInt8), (0 : UInt8), (0 : UInt8), (0 : UInt8), (0 : UInt8), (0 : UInt8), (0 : UInt8), (0 : UInt8), (0 : UInt8), (0 : UInt8), (0 : UInt8), (0 : UInt8), (0 : UInt8), (0 : UInt8), (0 : UInt8), (0 : UInt8), (0 : UInt8), (0 : UInt8), (0 : UInt8), (0 : UInt8), (0 : UInt8), (0 : UInt8), (0 : UInt8), (0 : UInt8), (0 : UInt8), (0 : UInt8), (0 : UInt8), (0 : UInt8)], rfl⟩ : (Arr 32 UInt8))) rfl TT.arrB_35_32 rfl rfl g3) ?_
    refine xs 83 rfl (sf_pickA rfl rfl rfl rfl (fun hb => by rw [hb]; rfl) (fun _ => rfl) ?_)
    refine xm 84 (pB (((((v2 && (decide ((x_6.length : Int) = (2 : Int)))) && (decide ((idx x_6 (0 : Int)) = (5 : Int)))) && (decide ((idx x_6 (1 : Int)) = (4 : Int)))) && x_8.2) && (((x_8.1).fSum).1 == (⟨[(7 : UInt8), (0 : UInt8), (0 : UInt8), (0 : UInt8), (0 : UInt8), (0 : UInt8), (0 : UInt8), (0 : UInt8), (0 : UInt8), (0 : UInt8), (0 : UInt8), (0 : UInt8), (0 : UInt8), (0 : UInt8), (0 : UInt8), (0 : UInt8), (0 : UInt8), (0 : UInt8), (0 : UInt8), (0 : UInt8), (0 : UInt8), (0 : UInt8), (0 : UInt8), (0 : UInt8), (0 : UInt8), (0 : UInt8), (0 : UInt8), (0 : UInt8), (0 : UInt8), (0 : UInt8), (0 : UInt8), (0 : UInt8)], rfl⟩ : (Arr 32 UInt8)).1))) ?_
    refine xg 85 (pI (x_10.2)) rfl rfl (fun hg => sf_move (v := pI (x_10.2)) rfl rfl g3) ?_
    refine xg 86 (pB (decide ((x_10.2) = (0 : Int)))) rfl rfl (fun hg => sf_eq (a := (x_10.2)) (b := (0 : Int)) rfl rfl rfl g3) ?_
    refine xs 87 rfl (sf_pickA rfl rfl rfl rfl (fun hb => by rw [hb]; rfl) (fun _ => rfl) ?_)
    refine xm 88 (pB ((((((v2 && (decide ((x_6.length : Int) = (2 : Int)))) && (decide ((idx x_6 (0 : Int)) = (5 : Int)))) && (decide ((idx x_6 (1 : Int)) = (4 : Int)))) && x_8.2) && (((x_8.1).fSum).1 == (⟨[(7 : UInt8), (0 : UInt8), (0 : UInt8), (0 : UInt8), (0 : UInt8), (0 : UInt8), (0 : UInt8), (0 : UInt8), (0 : UInt8), (0 : UInt8), (0 : UInt8), (0 : UInt8), (0 : UInt8), (0 : UInt8), (0 : UInt8), (0 : UInt8), (0 : UInt8), (0 : UInt8), (0 : UInt8), (0 : UInt8), (0 : UInt8), (0 : UInt8), (0 : UInt8), (0 : UInt8), (0 : UInt8), (0 : UInt8), (0 : UInt8), (0 : UInt8), (0 : UInt8), (0 : UInt8), (0 : UInt8), (0 : UInt8)], rfl⟩ : (Arr 32 UInt8)).1)) && (decide ((x_10.2) = (0 : Int))))) ?_
    refine xg 89 (pI (x_12.2)) rfl rfl (fun hg => sf_move (v := pI (x_12.2)) rfl rfl g3) ?_
    refine xg 90 (pB (decide ((x_12.2) = (0 : Int)))) rfl rfl (fun hg => sf_eq (a := (x_12.2)) (b := (0 : Int)) rfl rfl rfl g3) ?_
    refine xs 91 rfl (sf_pickA rfl rfl rfl rfl (fun hb => by rw [hb]; rfl) (fun _ => rfl) ?_)
    refine xm 92 (pB (((((((v2 && (decide ((x_6.length : Int) = (2 : Int)))) && (decide ((idx x_6 (0 : Int)) = (5 : Int)))) && (decide ((idx x_6 (1 : Int)) = (4 : Int)))) && x_8.2) && (((x_8.1).fSum).1 == (⟨[(7 : UInt8), (0 : UInt8), (0 : UInt8), (0 : UInt8), (0 : UInt8), (0 : UInt8), (0 : UInt8), (0 : UInt8), (0 : UInt8), (0 : UInt8), (0 : UInt8), (0 : UInt8), (0 : UInt8), (0 : UInt8), (0 : UInt8), (0 : UInt8), (0 : UInt8), (0 : UInt8), (0 : UInt8), (0 : UInt8), (0 : UInt8), (0 : UInt8), (0 : UInt8), (0 : UInt8), (0 : UInt8), (0 : UInt8), (0 : UInt8), (0 : UInt8), (0 : UInt8), (0 : UInt8), (0 : UInt8), (0 : UInt8)], rfl⟩ : (Arr 32 UInt8)).1)) && (decide ((x_10.2) = (0 : Int)))) && (decide ((x_12.2) = (0 : Int))))) ?_
    refine XK.gd (v := .d (.agg (cIndex (x_12.1)))) (T := [2]) (some 93) rfl rfl (by repeat (first | exact trivial | refine ⟨fun q => by first | rfl | exact q | exact cda q | exact cdb q, ?_⟩)) (fun hg => sf_ldV (v := .agg [.d (.slice (((x_12.1).fpages).map (eL eRow)))]) rfl TT.tyA_71 rfl rfl ⟨⟨by simp, by simp⟩, rfl⟩ ⟨⟨rfl, rfl, rfl⟩, rfl, (Imp.toD rfl)⟩) (fun _ i hi => by simp only [List.mem_singleton] at hi; subst hi; decide) ?_
    obtain ⟨x_18, hx_19, h⟩ := bG h
    refine xg 94 (.d (.slice (x_18.map eRow))) rfl rfl (fun hg => sf_call rfl rfl TT.enters_56 rfl (sim_pindex_Index_All (x_12.1) _ (bT hx_19 hg)) g3) ?_
    refine xg 95 (pI (x_18.length : Int)) rfl rfl (fun hg => sf_lenL (en := eRow) (l := x_18) rfl TT.under_22 rfl g3) ?_
    refine xg 96 (pB (decide ((x_18.length : Int) = (9 : Int)))) rfl rfl (fun hg => sf_eq (a := (x_18.length : Int)) (b := (9 : Int)) rfl rfl rfl g3) ?_
    refine xs 97 rfl (sf_pickA rfl rfl rfl rfl (fun hb => by rw [hb]; rfl) (fun _ => rfl) ?_)
    refine xm 98 (pB ((((((((v2 && (decide ((x_6.length : Int) = (2 : Int)))) && (decide ((idx x_6 (0 : Int)) = (5 : Int)))) && (decide ((idx x_6 (1 : Int)) = (4 : Int)))) && x_8.2) && (((x_8.1).fSum).1 == (⟨[(7 : UInt8), (0 : UInt8), (0 : UInt8), (0 : UInt8), (0 : UInt8), (0 : UInt8), (0 : UInt8), (0 : UInt8), (0 : UInt8), (0 : UInt8), (0 : UInt8), (0 : UInt8), (0 : UInt8), (0 : UInt8), (0 : UInt8), (0 : UInt8), (0 : UInt8), (0 : UInt8), (0 : UInt8), (0 : UInt8), (0 : UInt8), (0 : UInt8), (0 : UInt8), (0 : UInt8), (0 : UInt8), (0 : UInt8), (0 : UInt8), (0 : UInt8), (0 : UInt8), (0 : UInt8), (0 : UInt8), (0 : UInt8)], rfl⟩ : (Arr 32 UInt8)).1)) && (decide ((x_10.2) = (0 : Int)))) && (decide ((x_12.2) = (0 : Int)))) && (decide ((x_18.length : Int) = (9 : Int))))) ?_
    refine xg 99 (pB (x_14.2)) rfl rfl (fun hg => sf_move (v := pB (x_14.2)) rfl rfl g3) ?_
    refine xs 100 rfl (sf_pickA rfl rfl rfl rfl (fun hb => by rw [hb]; rfl) (fun _ => rfl) ?_)
    refine xm 101 (pB (((((((((v2 && (decide ((x_6.length : Int) = (2 : Int)))) && (decide ((idx x_6 (0 : Int)) = (5 : Int)))) && (decide ((idx x_6 (1 : Int)) = (4 : Int)))) && x_8.2) && (((x_8.1).fSum).1 == (⟨[(7 : UInt8), (0 : UInt8), (0 : UInt8), (0 : UInt8), (0 : UInt8), (0 : UInt8), (0 : UInt8), (0 : UInt8), (0 : UInt8), (0 : UInt8), (0 : UInt8), (0 : UInt8), (0 : UInt8), (0 : UInt8), (0 : UInt8), (0 : UInt8), (0 : UInt8), (0 : UInt8), (0 : UInt8), (0 : UInt8), (0 : UInt8), (0 : UInt8), (0 : UInt8), (0 : UInt8), (0 : UInt8), (0 : UInt8), (0 : UInt8), (0 : UInt8), (0 : UInt8), (0 : UInt8), (0 : UInt8), (0 : UInt8)], rfl⟩ : (Arr 32 UInt8)).1)) && (decide ((x_10.2) = (0 : Int)))) && (decide ((x_12.2) = (0 : Int)))) && (decide ((x_18.length : Int) = (9 : Int)))) && x_14.2)) ?_
    refine XK.gd (v := .d (.agg (cIndex (x_14.1)))) (T := [3]) (some 102) rfl rfl (by repeat (first | exact trivial | refine ⟨fun q => by first | rfl | exact q | exact cda q | exact cdb q, ?_⟩)) (fun hg => sf_ldV (v := .agg [.d (.slice (((x_14.1).fpages).map (eL eRow)))]) rfl TT.tyA_71 rfl rfl ⟨⟨by simp, by simp⟩, rfl⟩ ⟨⟨rfl, rfl, rfl⟩, rfl, (Imp.toD rfl)⟩) (fun _ i hi => by simp only [List.mem_singleton] at hi; subst hi; decide) ?_
    obtain ⟨x_20, hx_21, h⟩ := bG h
    refine xg 103 (.d (.slice (x_20.map eI))) rfl rfl (fun hg => sf_call rfl rfl TT.enters_55 rfl (sim_pindex_Index_Pages (x_14.1) _ (bT hx_21 hg)) g3) ?_
    refine xg 104 (pI (x_20.length : Int)) rfl rfl (fun hg => sf_lenL (en := eI) (l := x_20) rfl TT.under_81 rfl g3) ?_
    refine xg 105 (pB (decide ((x_20.length : Int) = (1 : Int)))) rfl rfl (fun hg => sf_eq (a := (x_20.length : Int)) (b := (1 : Int)) rfl rfl rfl g3) ?_
    refine xs 106 rfl (sf_pickA rfl rfl rfl rfl (fun hb => by rw [hb]; rfl) (fun _ => rfl) ?_)
    refine xm 107 (pB ((((((((((v2 && (decide ((x_6.length : Int) = (2 : Int)))) && (decide ((idx x_6 (0 : Int)) = (5 : Int)))) && (decide ((idx x_6 (1 : Int)) = (4 : Int)))) && x_8.2) && (((x_8.1).fSum).1 == (⟨[(7 : UInt8), (0 : UInt8), (0 : UInt8), (0 : UInt8), (0 : UInt8), (0 : UInt8), (0 : UInt8), (0 : UInt8), (0 : UInt8), (0 : UInt8), (0 : UInt8), (0 : UInt8), (0 : UInt8), (0 : UInt8), (0 : UInt8), (0 : UInt8), (0 : UInt8), (0 : UInt8), (0 : UInt8), (0 : UInt8), (0 : UInt8), (0 : UInt8), (0 : UInt8), (0 : UInt8), (0 : UInt8), (0 : UInt8), (0 : UInt8), (0 : UInt8), (0 : UInt8), (0 : UInt8), (0 : UInt8), (0 : UInt8)], rfl⟩ : (Arr 32 UInt8)).1)) && (decide ((x_10.2) = (0 : Int)))) && (decide ((x_12.2) = (0 : Int)))) && (decide ((x_18.length : Int) = (9 : Int)))) && x_14.2) && (decide ((x_20.length : Int) = (1 : Int))))) ?_
    refine XK.gd (v := .d (.agg (cIndex (⟨v1_0⟩ : Index)))) (T := [0]) (some 108) rfl rfl (by repeat (first | exact trivial | refine ⟨fun q => by first | rfl | exact q | exact cda q | exact cdb q, ?_⟩)) (fun hg => sf_ldV (v := .agg [.d (.slice (v1_0.map (eL eRow)))]) rfl TT.tyA_71 rfl rfl ⟨⟨by simp, by simp⟩, rfl⟩ ⟨⟨rfl, rfl, rfl⟩, rfl, (Imp.toD rfl)⟩) (fun _ i hi => by simp only [List.mem_singleton] at hi; subst hi; decide) ?_
    refine xg 109 (.d (.agg ((⟨[(3 : UInt8), (0 : UInt8), (0 : UInt8), (0 : UInt8), (0 : UInt8), (0 : UInt8), (0 : UInt8), (0 : UInt8), (0 : UInt8), (0 : UInt8), (0 : UInt8), (0 : UInt8), (0 : UInt8), (0 : UInt8), (0 : UInt8), (0 : UInt8), (0 : UInt8), (0 : UInt8), (0 : UInt8), (0 : UInt8), (0 : UInt8), (0 : UInt8), (0 : UInt8), (0 : UInt8), (0 : UInt8), (0 : UInt8), (0 : UInt8), (0 : UInt8), (0 : UInt8), (0 : UInt8), (0 : UInt8), (0 : UInt8)], rfl⟩ : (Arr 32 UInt8)).1.map byteD))) rfl rfl (fun hg => sf_build (v := .agg [.d (.val (.int .u8 ((3 : UInt8).toNat : Int))), .d (.val (.int .u8 ((0 : UInt8).toNat : Int))), .d (.val (.int .u8 ((0 : UInt8).toNat : Int))), .d (.val (.int .u8 ((0 : UInt8).toNat : Int))), .d (.val (.int .u8 ((0 : UInt8).toNat : Int))), .d (.val (.int .u8 ((0 : UInt8).toNat : Int))), .d (.val (.int .u8 ((0 : UInt8).toNat : Int))), .d (.val (.int .u8 ((0 : UInt8).toNat : Int))), .d (.val (.int .u8 ((0 : UInt8).toNat : Int))), .d (.val (.int .u8 ((0 : UInt8).toNat : Int))), .d (.val (.int .u8 ((0 : UInt8).toNat : Int))), .d (.val (.int .u8 ((0 : UInt8).toNat : Int))), .d (.val (.int .u8 ((0 : UInt8).toNat : Int))), .d (.val (.int .u8 ((0 : UInt8).toNat : Int))), .d (.val (.int .u8 ((0 : UInt8).toNat : Int))), .d (.val (.int .u8 ((0 : UInt8).toNat : Int))), .d (.val (.int .u8 ((0 : UInt8).toNat : Int))), .d (.val (.int .u8 ((0 : UInt8).toNat : Int))), .d (.val (.int .u8 ((0 : UInt8).toNat : Int))), .d (.val (.int .u8 ((0 : UInt8).toNat : Int))), .d (.val (.int .u8 ((0 : UInt8).toNat : Int))), .d (.val (.int .u8 ((0 : UInt8).toNat : Int))), .d (.val (.int .u8 ((0 : UInt8).toNat : Int))), .d (.val (.int .u8 ((0 : UInt8).toNat : Int))), .d (.val (.int .u8 ((0 : UInt8).toNat : Int))), .d (.val (.int .u8 ((0 : UInt8).toNat : Int))), .d (.val (.int .u8 ((0 : UInt8).toNat : Int))), .d (.val (.int .u8 ((0 : UInt8).toNat : Int))), .d (.val (.int .u8 ((0 : UInt8).toNat : Int))), .d (.val (.int .u8 ((0 : UInt8).toNat : Int))), .d (.val (.int .u8 ((0 : UInt8).toNat : Int))), .d (.val (.int .u8 ((0 : UInt8).toNat : Int)))]) rfl (by rw [TT.bldA_35]; simp [buildP, fillP, placeOf, partsQ, evP, PV.solid, PV.cellsP, Value.oneCell', spl, cellV, ofVal, List.all, putS_at, tab, unS, unT, asCond, unC]) (by rw [TT.bldA_35]; rfl) ⟨⟨rfl, rfl, rfl⟩, rfl, (Imp.toD rfl)⟩) ?_
    obtain ⟨x_22, hx_23, h⟩ := bG h
    refine xg 110 (.d (.slice (x_22.map eRow))) rfl rfl (fun hg => sf_call rfl rfl TT.enters_62 rfl (sim_pindex_Index_Of (⟨v1_0⟩ : Index) (⟨[(3 : UInt8), (0 : UInt8), (0 : UInt8), (0 : UInt8), (0 : UInt8), (0 : UInt8), (0 : UInt8), (0 : UInt8), (0 : UInt8), (0 : UInt8), (0 : UInt8), (0 : UInt8), (0 : UInt8), (0 : UInt8), (0 : UInt8), (0 : UInt8), (0 : UInt8), (0 : UInt8), (0 : UInt8), (0 : UInt8), (0 : UInt8), (0 : UInt8), (0 : UInt8), (0 : UInt8), (0 : UInt8), (0 : UInt8), (0 : UInt8), (0 : UInt8), (0 : UInt8), (0 : UInt8), (0 : UInt8), (0 : UInt8)], rfl⟩ : (Arr 32 UInt8)) _ (bT hx_23 hg)) g3) ?_
    refine xg 111 (pI (x_22.length : Int)) rfl rfl (fun hg => sf_lenL (en := eRow) (l := x_22) rfl TT.under_22 rfl g3) ?_
    refine xg 112 (pB (decide ((x_22.length : Int) = (1 : Int)))) rfl rfl (fun hg => sf_eq (a := (x_22.length : Int)) (b := (1 : Int)) rfl rfl rfl g3) ?_
    refine xs 113 rfl (sf_pickA rfl rfl rfl rfl (fun hb => by rw [hb]; rfl) (fun _ => rfl) ?_)
    refine xz 0 (pB (((((((((((v2 && (decide ((x_6.length : Int) = (2 : Int)))) && (decide ((idx x_6 (0 : Int)) = (5 : Int)))) && (decide ((idx x_6 (1 : Int)) = (4 : Int)))) && x_8.2) && (((x_8.1).fSum).1 == (⟨[(7 : UInt8), (0 : UInt8), (0 : UInt8), (0 : UInt8), (0 : UInt8), (0 : UInt8), (0 : UInt8), (0 : UInt8), (0 : UInt8), (0 : UInt8), (0 : UInt8), (0 : UInt8), (0 : UInt8), (0 : UInt8), (0 : UInt8), (0 : UInt8), (0 : UInt8), (0 : UInt8), (0 : UInt8), (0 : UInt8), (0 : UInt8), (0 : UInt8), (0 : UInt8), (0 : UInt8), (0 : UInt8), (0 : UInt8), (0 : UInt8), (0 : UInt8), (0 : UInt8), (0 : UInt8), (0 : UInt8), (0 : UInt8)], rfl⟩ : (Arr 32 UInt8)).1)) && (decide ((x_10.2) = (0 : Int)))) && (decide ((x_12.2) = (0 : Int)))) && (decide ((x_18.length : Int) = (9 : Int)))) && x_14.2) && (decide ((x_20.length : Int) = (1 : Int)))) && (decide ((x_22.length : Int) = (1 : Int))))) ?_
    refine QW.ret zL ?_
    obtain rfl := sG h
    exact Ends.one (.inr rfl) rfl (ResIs.tmp rfl) rfl rfl
inductive C_law48_PindexTexts where
  | S
  | L1 (v8_2 : (List (List Row))) (v9 : Int) (v7_0_2 : (List (List Row)))
  | J2 (v8_5 : (List (List Row))) (v9_4 : Int) (v7_0_5 : (List (List Row)))
  | L3 (v8_7 : (List (List Row))) (v12_2 : (List UInt8)) (v13_2 : Int) (v15_2 : Int) (v16_2 : (List Row)) (v17_2 : (List Row)) (v18 : Int) (v7_0_7 : (List (List Row))) (v14_0_2 : (List (List Row)))
noncomputable def step_law48_PindexTexts (l0 : (List Act)) (s1 : (Arr 32 UInt8)) (more2 : (List UInt8)) : C_law48_PindexTexts → Option (C_law48_PindexTexts ⊕ Bool)
  | .S =>
    some (.inl (.L1 ([] : (List (List Row))) (0) ([] : (List (List Row)))))
  | .L1 v8_2 v9 v7_0_2 =>
    (bif ((decide (v9 < (l0.length : Int))) && (decide (v9 < (40 : Int)))) then
    gO (0 ≤ v9 ∧ v9 < (l0.length : Int)) (
    (bif ((decide ((300 : Int) < ((((idx l0 v9).fRow).fBody).length : Int))) || (decide ((100 : Int) < (more2.length : Int)))) then
    ((g_law48_awake ).bind fun (x_5 : Bool) =>
    some (.inr x_5))
    else
    gO (0 ≤ v9 ∧ v9 < (l0.length : Int)) (
    ((g_pindex_Index_Put (⟨v7_0_2⟩ : Index) ((idx l0 v9).fRow)).bind fun (x_8 : (Index × Bool)) =>
    (bif x_8.2 then
    gO (0 ≤ v9 ∧ v9 < (l0.length : Int)) (
    ((g_ref48_Put v8_2 ((idx l0 v9).fRow)).bind fun (x_12 : (List (List Row))) =>
    some (.inl (.J2 x_12 v9 ((x_8.1).fpages)))))
    else
    some (.inl (.J2 v8_2 v9 v7_0_2)))))))
    else
    ((g_pindex_Index_Text (⟨v7_0_2⟩ : Index)).bind fun (x_16 : ((List UInt8) × Int)) =>
    ((g_pindex_Load (x_16.1)).bind fun (x_18 : (Index × Int)) =>
    ((g_ref48_All v8_2).bind fun (x_20 : (List Row)) =>
    some (.inl (.L3 v8_2 (x_16.1) (x_16.2) (x_18.2) ([] : (List Row)) x_20 (0) v7_0_2 ((x_18.1).fpages)))))))
  | .J2 v8_5 v9_4 v7_0_5 =>
    gO (inI (v9_4 + (1 : Int))) (
    some (.inl (.L1 v8_5 (v9_4 + (1 : Int)) v7_0_5)))
  | .L3 v8_7 v12_2 v13_2 v15_2 v16_2 v17_2 v18 v7_0_7 v14_0_2 =>
    (bif (decide (v18 < (v17_2.length : Int))) then
    ((gO (0 ≤ v18 ∧ v18 < (v17_2.length : Int)) (
    (bif (((idx v17_2 v18).fSum).1 == s1.1) then
    gO (0 ≤ v18 ∧ v18 < (v17_2.length : Int)) (
    gO ((v16_2.length + ([(idx v17_2 v18)] : List Row).length) * 56 ≤ 140737488355328) (
    some (v16_2 ++ ([(idx v17_2 v18)] : List Row))))
    else
    some v16_2)) : Option (List Row)).bind fun (v16_5 : (List Row)) =>
    gO (inI (v18 + (1 : Int))) (
    some (.inl (.L3 v8_7 v12_2 v13_2 v15_2 v16_5 v17_2 (v18 + (1 : Int)) v7_0_7 v14_0_2))))
    else
    gO (v12_2.length + more2.length ≤ 9223372036854775807) (
    ((g_pindex_Load (v12_2 ++ more2)).bind fun (x_30 : (Index × Int)) =>
    ((g_pindex_Index_Text (x_30.1)).bind fun (x_32 : ((List UInt8) × Int)) =>
    ((g_law48_awake ).bind fun (x_34 : Bool) =>
    ((bif ((x_34 && (decide (v13_2 = (0 : Int)))) == true) then g_ref48_Text v8_7 else some default).bind fun (x_36 : (List UInt8)) =>
    ((bif ((((x_34 && (decide (v13_2 = (0 : Int)))) && (v12_2 == x_36)) && (decide (v15_2 = (0 : Int)))) == true) then g_pindex_Index_All (⟨v14_0_2⟩ : Index) else some default).bind fun (x_38 : (List Row)) =>
    ((bif ((((x_34 && (decide (v13_2 = (0 : Int)))) && (v12_2 == x_36)) && (decide (v15_2 = (0 : Int)))) == true) then g_ref47_Same x_38 v17_2 else some default).bind fun (x_40 : Bool) =>
    ((bif (((((x_34 && (decide (v13_2 = (0 : Int)))) && (v12_2 == x_36)) && (decide (v15_2 = (0 : Int)))) && x_40) == true) then g_pindex_Index_Pages (⟨v14_0_2⟩ : Index) else some default).bind fun (x_42 : (List Int)) =>
    ((bif ((((((x_34 && (decide (v13_2 = (0 : Int)))) && (v12_2 == x_36)) && (decide (v15_2 = (0 : Int)))) && x_40) && (decide ((x_42.length : Int) = (v8_7.length : Int)))) == true) then g_pindex_Index_Of (⟨v7_0_7⟩ : Index) s1 else some default).bind fun (x_44 : (List Row)) =>
    ((bif ((((((x_34 && (decide (v13_2 = (0 : Int)))) && (v12_2 == x_36)) && (decide (v15_2 = (0 : Int)))) && x_40) && (decide ((x_42.length : Int) = (v8_7.length : Int)))) == true) then g_ref47_Same x_44 v16_2 else some default).bind fun (x_46 : Bool) =>
    ((bif ((((((((x_34 && (decide (v13_2 = (0 : Int)))) && (v12_2 == x_36)) && (decide (v15_2 = (0 : Int)))) && x_40) && (decide ((x_42.length : Int) = (v8_7.length : Int)))) && x_46) == true) && ((!decide ((x_30.2) = (0 : Int))) == true)) then g_pindex_Index_All (x_30.1) else some default).bind fun (x_48 : (List Row)) =>
    gO ((((((((((x_34 && (decide (v13_2 = (0 : Int)))) && (v12_2 == x_36)) && (decide (v15_2 = (0 : Int)))) && x_40) && (decide ((x_42.length : Int) = (v8_7.length : Int)))) && x_46) == true) && (((!decide ((x_30.2) = (0 : Int))) && (decide ((x_48.length : Int) = (0 : Int)))) == false)) && ((decide ((x_30.2) = (0 : Int))) == true)) = true → v12_2.length + more2.length ≤ 9223372036854775807) (
    some (.inr (((((((x_34 && (decide (v13_2 = (0 : Int)))) && (v12_2 == x_36)) && (decide (v15_2 = (0 : Int)))) && x_40) && (decide ((x_42.length : Int) = (v8_7.length : Int)))) && x_46) && (((!decide ((x_30.2) = (0 : Int))) && (decide ((x_48.length : Int) = (0 : Int)))) || ((decide ((x_30.2) = (0 : Int))) && (x_32.1 == (v12_2 ++ more2)))))))))))))))))))
noncomputable def g_law48_PindexTexts (l0 : (List Act)) (s1 : (Arr 32 UInt8)) (more2 : (List UInt8)) : Option Bool := theC (step_law48_PindexTexts l0 s1 more2) .S
theorem sim_law48_PindexTexts (l0 : (List Act)) (s1 : (Arr 32 UInt8)) (more2 : (List UInt8)) (r : Bool) (h : g_law48_PindexTexts l0 s1 more2 = some r) : Fun Try.prog 10 [.slice (l0.map eAct), .agg (s1.1.map byteD), .val (sV more2)] (.val (.bool r)) := by
  refine Fun.of_bodyQ Try.func10 rfl (by simp [Try.ntmps10]) ?_
  rw [Try.ntmps10, TT.res_10]
  refine QW.view (s' := ⟨tab [(0, .d (.slice (l0.map eAct))), (1, .d (.agg (s1.1.map byteD))), (2, pS more2)], tabH [], 0, []⟩) (View.init (by rfl)) zL ?_
  replace h := theC_get h
  obtain ⟨_, h⟩ := h
  obtain ⟨k_0, rfl, h9⟩ := run_succ h; replace h := h9; clear h9; rw [step_law48_PindexTexts] at h
  refine sR ?_
  refine XK.fz (some 4) rfl rfl (sf_boxF (ds := s1.1.map byteD) rfl rfl rfl rfl toDs_map ?_)
  refine xz 6 (pB false) ?_
  refine sR ?_
  refine xs 7 rfl (sf_alloc (l := [.full (([] : (List (List Row))).map (eL eRow))]) rfl TT.zeroA_71 rfl rfl ?_)
  refine XK.nz ?_
  refine sR ?_
  refine xz 8 (.full (([] : (List (List Row))).map (eL eRow))) ?_
  refine QW.seq ?_
  refine sR ?_
  refine xz 9 (pI (0)) ?_
  refine QW.block ?_
  refine QW.loop (fun k σ => ∃ v8_2 : (List (List Row)), ∃ v9 : Int, ∃ v7_0_2 : (List (List Row)), k ≤ k_0 ∧ run (step_law48_PindexTexts l0 s1 more2) k (.L1 v8_2 v9 v7_0_2) = some r ∧ σ = ⟨tab [(0, .d (.slice (l0.map eAct))), (2, pS more2), (4, .d (.cptr (s1.1.map byteD))), (7, .vptr 0 0), (8, .d (.slice (v8_2.map (eL eRow)))), (9, pI v9)], tabH [.var [.d (.slice (v7_0_2.map (eL eRow)))]], 1, []⟩) k_0 zL ⟨⟨tab [(0, .d (.slice (l0.map eAct))), (2, pS more2), (4, .d (.cptr (s1.1.map byteD))), (7, .vptr 0 0), (8, .d (.slice (([] : (List (List Row))).map (eL eRow)))), (9, pI (0))], tabH [.var [.d (.slice (([] : (List (List Row))).map (eL eRow)))]], 1, []⟩, View.trans (View.castV 0 0 rfl rfl rfl zL) (View.mk 1 [0] _ _ _ rfl rfl (by decide) (iC (iC (iC (iC (And.intro (Imp.toD rfl) (iC trivial)))))) (And.intro rfl trivial) rfl zL rfl), ([] : (List (List Row))), 0, ([] : (List (List Row))), Nat.le_refl _, jG h, rfl⟩ ?_
  rintro k_1s _ ⟨v8_2, v9, v7_0_2, k_1h, h, rfl⟩
  obtain ⟨k_1, rfl, h9⟩ := run_succ h; replace h := h9; clear h9; rw [step_law48_PindexTexts] at h
  refine QW.seq ?_
  refine sR ?_
  refine xm 23 (pI v9) ?_
  refine xm 24 (.d (.slice (l0.map eAct))) ?_
  refine xs 25 rfl (sf_lenL (en := eAct) (l := l0) rfl TT.under_68 rfl ?_)
  refine xs 26 rfl (sf_lss (a := v9) (b := (l0.length : Int)) rfl rfl rfl ?_)
  refine xm 27 (pB (decide (v9 < (l0.length : Int)))) ?_
  refine xg 28 (pI v9) rfl rfl (fun hg => sf_move (v := pI v9) rfl rfl g3) ?_
  refine xg 29 (pB (decide (v9 < (40 : Int)))) rfl rfl (fun hg => sf_lss (a := v9) (b := (40 : Int)) rfl rfl rfl g3) ?_
  refine xs 30 rfl (sf_pickA rfl rfl rfl rfl (fun hb => by rw [hb]; rfl) (fun _ => rfl) ?_)
  refine XK.nz ?_
  refine QW.cond (t := ((decide (v9 < (l0.length : Int))) && (decide (v9 < (40 : Int))))) rfl zL (fun hb_2 => ?_) (fun hb_2 => ?_)
  · replace h := bGT h hb_2
    refine QW.skip zL (nrm ?_)
    refine QW.seqI (fun s' => ∃ v8_5 : (List (List Row)), ∃ v9_4 : Int, ∃ v7_0_5 : (List (List Row)), ∃ k : Nat, k ≤ k_1 ∧ run (step_law48_PindexTexts l0 s1 more2) k (.J2 v8_5 v9_4 v7_0_5) = some r ∧ s' = ⟨tab [(0, .d (.slice (l0.map eAct))), (2, pS more2), (4, .d (.cptr (s1.1.map byteD))), (7, .vptr 0 0), (8, .d (.slice (v8_5.map (eL eRow)))), (9, pI v9_4)], tabH [.var [.d (.slice (v7_0_5.map (eL eRow)))]], 1, []⟩) ?_ ?_
    · refine QW.block ?_
      refine QW.seq ?_
      refine sR ?_
      refine xm 33 (.d (.slice (l0.map eAct))) ?_
      refine xm 34 (pI v9) ?_
      obtain ⟨c_3, h⟩ := gG h
      refine xs 35 rfl (sf_idxA (l := l0) (i := v9) rfl TT.slcA_68 lay_Act rfl rfl c_3 ?_)
      refine xs 36 rfl (sf_fldC rfl TT.fldA_74_1 (by decide) rfl ?_)
      refine xs 37 rfl (sf_fldC rfl TT.fldA_37_2 (by decide) rfl ?_)
      refine xs 38 rfl (sf_ldC (d := .val (sV (((idx l0 v9).fRow).fBody))) rfl TT.tyA_9 rfl (ldc_Act_1_2 _) ?_)
      refine xs 39 rfl (sf_lenS (l := ((idx l0 v9).fRow).fBody) rfl TT.under_9 rfl ?_)
      refine xs 40 rfl (sf_gtr (a := ((((idx l0 v9).fRow).fBody).length : Int)) (b := (300 : Int)) rfl rfl rfl ?_)
      refine xm 41 (pB (decide ((300 : Int) < ((((idx l0 v9).fRow).fBody).length : Int)))) ?_
      refine xg 42 (pS more2) rfl rfl (fun hg => sf_move (v := pS more2) rfl rfl g3) ?_
      refine xg 43 (pI (more2.length : Int)) rfl rfl (fun hg => sf_lenS (l := more2) rfl TT.under_9 rfl g3) ?_
      refine xg 44 (pB (decide ((100 : Int) < (more2.length : Int)))) rfl rfl (fun hg => sf_gtr (a := (more2.length : Int)) (b := (100 : Int)) rfl rfl rfl g3) ?_
      refine xs 45 rfl (sf_pickO rfl rfl rfl rfl (fun _ => rfl) (fun hb => by rw [hb]; rfl) ?_)
      refine XK.nz ?_
      refine QW.cond (t := ((decide ((300 : Int) < ((((idx l0 v9).fRow).fBody).length : Int))) || (decide ((100 : Int) < (more2.length : Int))))) rfl zL (fun hb_4 => ?_) (fun hb_4 => ?_)
      · replace h := bGT h hb_4
        refine sR ?_
        obtain ⟨x_5, hx_6, h⟩ := bG h
        refine xs 46 rfl (sf_call rfl rfl TT.enters_49 rfl (sim_law48_awake  _ hx_6) ?_)
        refine xz 6 (pB x_5) ?_
        refine QW.ret zL (thR (blR (thR (thR (blR (thR ?_))))))
        obtain rfl := sG h
        exact Ends.one (.inr rfl) rfl (ResIs.tmp rfl) rfl rfl
      · replace h := bGF h hb_4
        refine QW.skip zL (nrm ?_)
        refine QW.seq ?_
        refine QW.region zL (PW.regK (id := 8) mixedX (M := _) rfl (by kernel_rfl) ?_)
        refine RK.as (some 48) rfl rfl (sf_ldV (v := .agg [.d (.slice (v7_0_2.map (eL eRow)))]) rfl TT.tyA_71 rfl rfl ⟨⟨by simp, by simp⟩, rfl⟩ ⟨.d (.agg (cIndex (⟨v7_0_2⟩ : Index))), (Imp.toD rfl), ?_⟩)
        refine RK.st (some 49) rfl rfl (sf_move (v := .d (.slice (l0.map eAct))) rfl rfl ?_)
        refine RK.st (some 50) rfl rfl (sf_move (v := pI v9) rfl rfl ?_)
        obtain ⟨c_7, h⟩ := gG h
        refine RK.st (some 51) rfl rfl (sf_idxA (l := l0) (i := v9) rfl TT.slcA_68 lay_Act rfl rfl c_7 ?_)
        refine RK.st (some 52) rfl rfl (sf_fldC rfl TT.fldA_74_1 (by decide) rfl ?_)
        refine RK.st (some 53) rfl rfl (sf_ldC (d := .agg (cRow ((idx l0 v9).fRow))) rfl TT.tyA_37 rfl (ldc_Act_1 _) ?_)
        obtain ⟨x_8, hx_9, h⟩ := bG h
        refine RK.st (some 54) rfl rfl (sf_call rfl rfl TT.enters_53 rfl (sim_pindex_Index_Put (⟨v7_0_2⟩ : Index) ((idx l0 v9).fRow) _ hx_9) ?_)
        refine RK.st (some 47) rfl rfl (sf_move (v := .d (.tuple [.agg (cIndex (x_8.1)), .val (.bool (x_8.2))])) rfl rfl ?_)
        refine RK.st (some 55) rfl rfl (sf_extract rfl rfl rfl ?_)
        refine RK.st (some 56) rfl rfl (sf_extract rfl rfl rfl ?_)
        refine RK.st (some 10) rfl rfl (sf_alloc (l := [.full (([] : (List (List Row))).map (eL eRow))]) rfl TT.zeroA_71 rfl rfl ?_)
        refine RK.st none rfl rfl (sf_stV (l' := [.d (.slice (((x_8.1).fpages).map (eL eRow)))]) rfl TT.tyA_71 rfl rfl rfl rfl rfl rfl (by simp) rfl ?_)
        refine RK.st (some 11) rfl rfl (sf_assign (v := pB (x_8.2)) rfl rfl ?_)
        refine RK.nil ⟨RecsOK.comp (by rfl), (nrm ?_)⟩
        refine sR ?_
        refine xm 57 (pB (x_8.2)) ?_
        refine XK.nz ?_
        refine QW.cond (t := x_8.2) rfl zL (fun hb_10 => ?_) (fun hb_10 => ?_)
        · replace h := bGT h hb_10
          refine sR ?_
          refine XK.as (some 58) rfl rfl (sf_ldV (v := .agg [.d (.slice (((x_8.1).fpages).map (eL eRow)))]) rfl TT.tyA_71 rfl rfl ⟨⟨by simp, by simp⟩, rfl⟩ ⟨.d (.agg (cIndex (x_8.1))), (Imp.toD rfl), ?_⟩)
          refine XK.st none rfl rfl (sf_stV (l' := [.d (.slice (((x_8.1).fpages).map (eL eRow)))]) rfl TT.tyA_71 rfl rfl rfl rfl rfl rfl (by simp) rfl ?_)
          refine XK.nz ?_
          refine rG ?_
          refine xm 59 (.d (.slice (v8_2.map (eL eRow)))) ?_
          refine xm 60 (.d (.slice (l0.map eAct))) ?_
          refine xm 61 (pI v9) ?_
          obtain ⟨c_11, h⟩ := gG h
          refine xs 62 rfl (sf_idxA (l := l0) (i := v9) rfl TT.slcA_68 lay_Act rfl rfl c_11 ?_)
          refine xs 63 rfl (sf_fldC rfl TT.fldA_74_1 (by decide) rfl ?_)
          refine xs 64 rfl (sf_ldC (d := .agg (cRow ((idx l0 v9).fRow))) rfl TT.tyA_37 rfl (ldc_Act_1 _) ?_)
          obtain ⟨x_12, hx_13, h⟩ := bG h
          refine xs 65 rfl (sf_call rfl rfl TT.enters_54 rfl (sim_ref48_Put v8_2 ((idx l0 v9).fRow) _ hx_13) ?_)
          refine xa 8 (.d (.slice (x_12.map (eL eRow)))) ?_
          refine XK.nil (blN (nrm ?_))
          exact ⟨⟨tab [(0, .d (.slice (l0.map eAct))), (2, pS more2), (4, .d (.cptr (s1.1.map byteD))), (7, .vptr 0 0), (8, .d (.slice (x_12.map (eL eRow)))), (9, pI v9)], tabH [.var [.d (.slice (((x_8.1).fpages).map (eL eRow)))]], 1, []⟩, View.mk 1 [0] _ _ _ rfl rfl (by decide) (iC (iC (iC (iC (iC (iC trivial)))))) (And.intro rfl trivial) rfl zL rfl, x_12, v9, (x_8.1).fpages, k_1, by omega, jG h, rfl⟩
        · replace h := bGF h hb_10
          refine QW.skip zL (blN (nrm ?_))
          exact ⟨⟨tab [(0, .d (.slice (l0.map eAct))), (2, pS more2), (4, .d (.cptr (s1.1.map byteD))), (7, .vptr 0 0), (8, .d (.slice (v8_2.map (eL eRow)))), (9, pI v9)], tabH [.var [.d (.slice (v7_0_2.map (eL eRow)))]], 1, []⟩, View.mk 1 [0] _ _ _ rfl rfl (by decide) (iC (iC (iC (iC (iC (iC trivial)))))) (And.intro rfl trivial) rfl zL rfl, v8_2, v9, v7_0_2, k_1, by omega, jG h, rfl⟩
    · rintro _ ⟨v8_5, v9_4, v7_0_5, k_14s, k_14h, h, rfl⟩
      obtain ⟨k_14, rfl, h9⟩ := run_succ h; replace h := h9; clear h9; rw [step_law48_PindexTexts] at h
      refine rG ?_
      refine xm 31 (pI v9_4) ?_
      obtain ⟨c_15, h⟩ := gG h
      refine xs 32 rfl (sf_add (a := v9_4) (b := (1 : Int)) rfl rfl rfl c_15 ?_)
      refine xz 9 (pI (v9_4 + (1 : Int))) ?_
      exact ⟨k_14, by omega, ⟨tab [(0, .d (.slice (l0.map eAct))), (2, pS more2), (4, .d (.cptr (s1.1.map byteD))), (7, .vptr 0 0), (8, .d (.slice (v8_5.map (eL eRow)))), (9, pI (v9_4 + (1 : Int)))], tabH [.var [.d (.slice (v7_0_5.map (eL eRow)))]], 1, []⟩, View.mk 1 [0] _ _ _ rfl rfl (by decide) (iC (iC (iC (iC (iC (iC trivial)))))) (And.intro rfl trivial) rfl zL rfl, v8_5, (v9_4 + (1 : Int)), v7_0_5, by omega, jG h, rfl⟩
  · replace h := bGF h hb_2
    refine QW.exit zL (thX (thX (exE (nrm ?_))))
    refine sR ?_
    refine XK.as (some 67) rfl rfl (sf_ldV (v := .agg [.d (.slice (v7_0_2.map (eL eRow)))]) rfl TT.tyA_71 rfl rfl ⟨⟨by simp, by simp⟩, rfl⟩ ⟨.d (.agg (cIndex (⟨v7_0_2⟩ : Index))), (Imp.toD rfl), ?_⟩)
    obtain ⟨x_16, hx_17, h⟩ := bG h
    refine xs 68 rfl (sf_call rfl rfl TT.enters_59 rfl (sim_pindex_Index_Text (⟨v7_0_2⟩ : Index) _ hx_17) ?_)
    refine xm 66 (.d (.tuple [.val (sV (x_16.1)), .val (.int .i64 (x_16.2))])) ?_
    refine xs 69 rfl (sf_extract rfl rfl rfl ?_)
    refine xs 70 rfl (sf_extract rfl rfl rfl ?_)
    refine xa 12 (pS (x_16.1)) ?_
    refine xz 13 (pI (x_16.2)) ?_
    refine sR ?_
    refine xm 72 (pS (x_16.1)) ?_
    obtain ⟨x_18, hx_19, h⟩ := bG h
    refine xs 73 rfl (sf_call rfl rfl TT.enters_60 rfl (sim_pindex_Load (x_16.1) _ hx_19) ?_)
    refine xm 71 (.d (.tuple [.agg (cIndex (x_18.1)), .val (.int .i64 (x_18.2))])) ?_
    refine xs 74 rfl (sf_extract rfl rfl rfl ?_)
    refine xs 75 rfl (sf_extract rfl rfl rfl ?_)
    refine xs 14 rfl (sf_alloc (l := [.full (([] : (List (List Row))).map (eL eRow))]) rfl TT.zeroA_71 rfl rfl ?_)
    refine XK.st none rfl rfl (sf_stV (l' := [.d (.slice (((x_18.1).fpages).map (eL eRow)))]) rfl TT.tyA_71 rfl rfl rfl rfl rfl rfl (by simp) rfl ?_)
    refine xz 15 (pI (x_18.2)) ?_
    refine QW.seq ?_
    refine QW.view (s' := ⟨tab [(2, pS more2), (4, .d (.cptr (s1.1.map byteD))), (7, .vptr 0 0), (8, .d (.slice (v8_2.map (eL eRow)))), (12, pS (x_16.1)), (13, pI (x_16.2)), (14, .vptr 1 0), (15, pI (x_18.2))], tabH [.var [.d (.slice (v7_0_2.map (eL eRow)))], .var [.d (.slice (((x_18.1).fpages).map (eL eRow)))]], 2, []⟩) (View.mk 2 [0, 1] _ _ _ rfl rfl (by decide) (iC (iC (iC (iC (iC (iC (iC (iC trivial)))))))) (And.intro rfl (And.intro rfl trivial)) rfl zL rfl) zL ?_
    refine rG ?_
    refine xz 16 (.full (([] : (List Row)).map eRow)) ?_
    refine sR ?_
    refine xm 76 (.d (.slice (v8_2.map (eL eRow)))) ?_
    obtain ⟨x_20, hx_21, h⟩ := bG h
    refine xs 77 rfl (sf_call rfl rfl TT.enters_50 rfl (sim_ref48_All v8_2 _ hx_21) ?_)
    refine xz 17 (.d (.slice (x_20.map eRow))) ?_
    refine QW.seq ?_
    refine sR ?_
    refine xz 18 (pI (0)) ?_
    refine QW.block ?_
    refine QW.loop (fun k σ => ∃ v8_7 : (List (List Row)), ∃ v12_2 : (List UInt8), ∃ v13_2 : Int, ∃ v15_2 : Int, ∃ v16_2 : (List Row), ∃ v17_2 : (List Row), ∃ v18 : Int, ∃ v7_0_7 : (List (List Row)), ∃ v14_0_2 : (List (List Row)), k ≤ k_1 ∧ run (step_law48_PindexTexts l0 s1 more2) k (.L3 v8_7 v12_2 v13_2 v15_2 v16_2 v17_2 v18 v7_0_7 v14_0_2) = some r ∧ σ = ⟨tab [(2, pS more2), (4, .d (.cptr (s1.1.map byteD))), (7, .vptr 0 0), (8, .d (.slice (v8_7.map (eL eRow)))), (12, pS v12_2), (13, pI v13_2), (14, .vptr 1 0), (15, pI v15_2), (16, .own 2 (v16_2.map eRow)), (17, .d (.slice (v17_2.map eRow))), (18, pI v18)], tabH [.var [.d (.slice (v7_0_7.map (eL eRow)))], .var [.d (.slice (v14_0_2.map (eL eRow)))], .spare 34 v16_2.length], 3, []⟩) k_1 zL ⟨⟨tab [(2, pS more2), (4, .d (.cptr (s1.1.map byteD))), (7, .vptr 0 0), (8, .d (.slice (v8_2.map (eL eRow)))), (12, pS (x_16.1)), (13, pI (x_16.2)), (14, .vptr 1 0), (15, pI (x_18.2)), (16, .own 2 (([] : (List Row)).map eRow)), (17, .d (.slice (x_20.map eRow))), (18, pI (0))], tabH [.var [.d (.slice (v7_0_2.map (eL eRow)))], .var [.d (.slice (((x_18.1).fpages).map (eL eRow)))], .spare 34 ([] : (List Row)).length], 3, []⟩, View.trans (View.buf 16 34 rfl zL) (View.mk 3 [0, 1, 2] _ _ _ rfl rfl (by decide) (iC (iC (iC (iC (iC (iC (iC (iC (iC (iC (iC trivial))))))))))) (And.intro rfl (And.intro rfl (And.intro rfl trivial))) rfl zL rfl), v8_2, x_16.1, x_16.2, x_18.2, ([] : (List Row)), x_20, 0, v7_0_2, (x_18.1).fpages, Nat.le_refl _, jG h, rfl⟩ ?_
    rintro k_22s _ ⟨v8_7, v12_2, v13_2, v15_2, v16_2, v17_2, v18, v7_0_7, v14_0_2, k_22h, h, rfl⟩
    obtain ⟨k_22, rfl, h9⟩ := run_succ h; replace h := h9; clear h9; rw [step_law48_PindexTexts] at h
    refine QW.seq ?_
    refine sR ?_
    refine xm 78 (pI v18) ?_
    refine xm 79 (.d (.slice (v17_2.map eRow))) ?_
    refine xs 80 rfl (sf_lenL (en := eRow) (l := v17_2) rfl TT.under_22 rfl ?_)
    refine xs 81 rfl (sf_lss (a := v18) (b := (v17_2.length : Int)) rfl rfl rfl ?_)
    refine XK.nz ?_
    refine QW.cond (t := (decide (v18 < (v17_2.length : Int)))) rfl zL (fun hb_23 => ?_) (fun hb_23 => ?_)
    · replace h := bGT h hb_23
      refine QW.skip zL (nrm ?_)
      obtain ⟨v16_5, hq, h⟩ := bG h
      refine QW.seqI (fun s' => s' = ⟨tab [(2, pS more2), (4, .d (.cptr (s1.1.map byteD))), (7, .vptr 0 0), (8, .d (.slice (v8_7.map (eL eRow)))), (12, pS v12_2), (13, pI v13_2), (14, .vptr 1 0), (15, pI v15_2), (16, .own 2 (v16_5.map eRow)), (17, .d (.slice (v17_2.map eRow))), (18, pI v18)], tabH [.var [.d (.slice (v7_0_7.map (eL eRow)))], .var [.d (.slice (v14_0_2.map (eL eRow)))], .spare 34 v16_5.length], 3, []⟩) ?_ ?_
      · replace h := hq; clear hq
        refine QW.block ?_
        refine QW.seq ?_
        refine QW.region zL (PW.regQ (id := 19) mixedX (M := _) rfl (by kernel_rfl) ?_)
        refine RQ.st (some 84) rfl rfl (sf_move (v := .d (.slice (v17_2.map eRow))) rfl rfl ⟨⟨rfl, rfl⟩, ?_⟩)
        refine RQ.st (some 85) rfl rfl (sf_move (v := pI v18) rfl rfl ⟨⟨rfl, rfl⟩, ?_⟩)
        obtain ⟨c_24, h⟩ := gO_get h
        refine RQ.st (some 86) rfl rfl (sf_idxA (l := v17_2) (i := v18) rfl TT.slcA_22 lay_Row rfl rfl c_24 ⟨⟨rfl, rfl⟩, ?_⟩)
        refine RQ.st (some 87) rfl rfl (sf_fldC rfl TT.fldA_37_0 (by decide) rfl ⟨⟨rfl, rfl⟩, ?_⟩)
        refine RQ.st (some 88) rfl rfl (sf_ldC (d := .agg (((idx v17_2 v18).fSum).1.map byteD)) rfl TT.tyA_35 rfl (ldc_Row_0 _) ⟨⟨rfl, rfl⟩, ?_⟩)
        refine RQ.st (some 89) rfl rfl (sf_ldC (d := .agg (s1.1.map byteD)) rfl TT.tyA_35 rfl (ldc_all (by rw [List.length_map, s1.2])) ⟨⟨rfl, rfl⟩, ?_⟩)
        refine RQ.st (some 90) rfl rfl (sf_arreq (p := (idx v17_2 v18).fSum) (q := s1) rfl TT.arrB_35_32 rfl rfl ⟨⟨rfl, rfl⟩, ?_⟩)
        refine RQ.nil (nrm ?_)
        refine QW.cond (t := (((idx v17_2 v18).fSum).1 == s1.1)) rfl zL (fun hb_25 => ?_) (fun hb_25 => ?_)
        · replace h := bT h hb_25
          refine rG ?_
          refine xm 91 (.own 2 (v16_2.map eRow)) ?_
          refine xm 92 (.d (.slice (v17_2.map eRow))) ?_
          refine xm 93 (pI v18) ?_
          obtain ⟨c_26, h⟩ := gO_get h
          refine xs 94 rfl (sf_idxA (l := v17_2) (i := v18) rfl TT.slcA_22 lay_Row rfl rfl c_26 ?_)
          refine xs 95 rfl (sf_ldC (d := .agg (cRow (idx v17_2 v18))) rfl TT.tyA_37 rfl (⟨by rw [lay_Row.len]; decide, congrArg D.agg (List.take_of_length_le (by rw [lay_Row.len]; decide))⟩) ?_)
          refine xs 96 rfl (sf_row (en := eRow) (l := ([(idx v17_2 v18)] : List Row)) rfl TT.rowA_22 lay_Row (by first | rfl | (simp only [List.map_cons, List.map_nil, eRow_eq]; rfl)) rfl (by decide) (by simp [solids, partsP, evP, ofVal, PV.solid, putS_at, tab, unS, unT, unC, asCond, Value.oneCell']) ?_)
          obtain ⟨c_27, h⟩ := gO_get h
          refine xs 97 rfl (sf_appO (en := eRow) (l := v16_2) (l2 := ([(idx v17_2 v18)] : List Row)) rfl TT.rowA_22 TT.under_22 rfl lay_Row rfl rfl rfl c_27 (by decide) ?_)
          refine xa 16 (.own 3 ((v16_2 ++ ([(idx v17_2 v18)] : List Row)).map eRow)) ?_
          refine XK.nil (blN (nrm ?_))
          obtain rfl := sO h
          exact ⟨⟨tab [(2, pS more2), (4, .d (.cptr (s1.1.map byteD))), (7, .vptr 0 0), (8, .d (.slice (v8_7.map (eL eRow)))), (12, pS v12_2), (13, pI v13_2), (14, .vptr 1 0), (15, pI v15_2), (16, .own 2 ((v16_2 ++ ([(idx v17_2 v18)] : List Row)).map eRow)), (17, .d (.slice (v17_2.map eRow))), (18, pI v18)], tabH [.var [.d (.slice (v7_0_7.map (eL eRow)))], .var [.d (.slice (v14_0_2.map (eL eRow)))], .spare 34 (v16_2 ++ ([(idx v17_2 v18)] : List Row)).length], 3, []⟩, View.mk 3 [0, 1, 3] _ _ _ rfl rfl (by decide) (iC (iC (iC (iC (iC (iC (iC (iC (iC (iC (iC trivial))))))))))) (And.intro rfl (And.intro rfl (And.intro rfl trivial))) rfl zL rfl, rfl⟩
        · replace h := bF h hb_25
          refine QW.skip zL (blN (nrm ?_))
          obtain rfl := sO h
          exact ⟨⟨tab [(2, pS more2), (4, .d (.cptr (s1.1.map byteD))), (7, .vptr 0 0), (8, .d (.slice (v8_7.map (eL eRow)))), (12, pS v12_2), (13, pI v13_2), (14, .vptr 1 0), (15, pI v15_2), (16, .own 2 (v16_2.map eRow)), (17, .d (.slice (v17_2.map eRow))), (18, pI v18)], tabH [.var [.d (.slice (v7_0_7.map (eL eRow)))], .var [.d (.slice (v14_0_2.map (eL eRow)))], .spare 34 v16_2.length], 3, []⟩, View.mk 3 [0, 1, 2] _ _ _ rfl rfl (by decide) (iC (iC (iC (iC (iC (iC (iC (iC (iC (iC (iC trivial))))))))))) (And.intro rfl (And.intro rfl (And.intro rfl trivial))) rfl zL rfl, rfl⟩
      · rintro _ rfl
        refine rG ?_
        refine xm 82 (pI v18) ?_
        obtain ⟨c_28, h⟩ := gG h
        refine xs 83 rfl (sf_add (a := v18) (b := (1 : Int)) rfl rfl rfl c_28 ?_)
        refine xz 18 (pI (v18 + (1 : Int))) ?_
        exact ⟨k_22, by omega, ⟨tab [(2, pS more2), (4, .d (.cptr (s1.1.map byteD))), (7, .vptr 0 0), (8, .d (.slice (v8_7.map (eL eRow)))), (12, pS v12_2), (13, pI v13_2), (14, .vptr 1 0), (15, pI v15_2), (16, .own 2 (v16_5.map eRow)), (17, .d (.slice (v17_2.map eRow))), (18, pI (v18 + (1 : Int)))], tabH [.var [.d (.slice (v7_0_7.map (eL eRow)))], .var [.d (.slice (v14_0_2.map (eL eRow)))], .spare 34 v16_5.length], 3, []⟩, View.mk 3 [0, 1, 2] _ _ _ rfl rfl (by decide) (iC (iC (iC (iC (iC (iC (iC (iC (iC (iC (iC trivial))))))))))) (And.intro rfl (And.intro rfl (And.intro rfl trivial))) rfl zL rfl, v8_7, v12_2, v13_2, v15_2, v16_5, v17_2, (v18 + (1 : Int)), v7_0_7, v14_0_2, by omega, jG h, rfl⟩
    · replace h := bGF h hb_23
      refine QW.exit zL (thX (thX (exE (nrm ?_))))
      refine sR ?_
      refine xm 99 (pS v12_2) ?_
      refine xm 100 (pS more2) ?_
      obtain ⟨c_29, h⟩ := gG h
      refine xs 101 rfl (sf_cat (a := v12_2) (b := more2) rfl rfl rfl c_29 ?_)
      obtain ⟨x_30, hx_31, h⟩ := bG h
      refine xs 102 rfl (sf_call rfl rfl TT.enters_60 rfl (sim_pindex_Load (v12_2 ++ more2) _ hx_31) ?_)
      refine xm 98 (.d (.tuple [.agg (cIndex (x_30.1)), .val (.int .i64 (x_30.2))])) ?_
      refine xs 103 rfl (sf_extract rfl rfl rfl ?_)
      refine xs 104 rfl (sf_extract rfl rfl rfl ?_)
      refine xs 19 rfl (sf_alloc (l := [.full (([] : (List (List Row))).map (eL eRow))]) rfl TT.zeroA_71 rfl rfl ?_)
      refine XK.st none rfl rfl (sf_stV (l' := [.d (.slice (((x_30.1).fpages).map (eL eRow)))]) rfl TT.tyA_71 rfl rfl rfl rfl rfl rfl (by simp) rfl ?_)
      refine xz 20 (pI (x_30.2)) ?_
      refine sR ?_
      refine XK.as (some 106) rfl rfl (sf_ldV (v := .agg [.d (.slice (((x_30.1).fpages).map (eL eRow)))]) rfl TT.tyA_71 rfl rfl ⟨⟨by simp, by simp⟩, rfl⟩ ⟨.d (.agg (cIndex (x_30.1))), (Imp.toD rfl), ?_⟩)
      obtain ⟨x_32, hx_33, h⟩ := bG h
      refine xs 107 rfl (sf_call rfl rfl TT.enters_59 rfl (sim_pindex_Index_Text (x_30.1) _ hx_33) ?_)
      refine xm 105 (.d (.tuple [.val (sV (x_32.1)), .val (.int .i64 (x_32.2))])) ?_
      refine xs 108 rfl (sf_extract rfl rfl rfl ?_)
      refine xs 109 rfl (sf_extract rfl rfl rfl ?_)
      refine xa 21 (pS (x_32.1)) ?_
      refine xz 22 (pI (x_32.2)) ?_
      refine QW.seq ?_
      refine QW.view (s' := ⟨tab [(2, pS more2), (4, .d (.cptr (s1.1.map byteD))), (7, .vptr 0 0), (8, .d (.slice (v8_7.map (eL eRow)))), (12, pS v12_2), (13, pI v13_2), (14, .vptr 1 0), (15, pI v15_2), (16, .own 2 (v16_2.map eRow)), (17, .d (.slice (v17_2.map eRow))), (19, .vptr 3 0), (20, pI (x_30.2)), (21, pS (x_32.1))], tabH [.var [.d (.slice (v7_0_7.map (eL eRow)))], .var [.d (.slice (v14_0_2.map (eL eRow)))], .spare 34 v16_2.length, .var [.d (.slice (((x_30.1).fpages).map (eL eRow)))]], 4, []⟩) (View.mk 4 [0, 1, 2, 3] _ _ _ rfl rfl (by decide) (iC (iC (iC (iC (iC (iC (iC (iC (iC (iC (iC (iC (iC trivial))))))))))))) (And.intro rfl (And.intro rfl (And.intro rfl (And.intro rfl trivial)))) rfl zL rfl) zL ?_
      refine rG ?_
      obtain ⟨x_34, hx_35, h⟩ := bG h
      refine xs 110 rfl (sf_call rfl rfl TT.enters_49 rfl (sim_law48_awake  _ hx_35) ?_)
      refine xm 111 (pB x_34) ?_
      refine xg 112 (pI v13_2) rfl rfl (fun hg => sf_move (v := pI v13_2) rfl rfl g3) ?_
      refine xg 113 (pB (decide (v13_2 = (0 : Int)))) rfl rfl (fun hg => sf_eq (a := v13_2) (b := (0 : Int)) rfl rfl rfl g3) ?_
      refine xs 114 rfl (sf_pickA rfl rfl rfl rfl (fun hb => by rw [hb]; rfl) (fun _ => rfl) ?_)
      refine xm 115 (pB (x_34 && (decide (v13_2 = (0 : Int))))) ?_
      refine xg 116 (pS v12_2) rfl rfl (fun hg => sf_move (v := pS v12_2) rfl rfl g3) ?_
      refine xg 117 (.d (.slice (v8_7.map (eL eRow)))) rfl rfl (fun hg => sf_move (v := .d (.slice (v8_7.map (eL eRow)))) rfl rfl g3) ?_
      obtain ⟨x_36, hx_37, h⟩ := bG h
      refine xg 118 (pS x_36) rfl rfl (fun hg => sf_call rfl rfl TT.enters_61 rfl (sim_ref48_Text v8_7 _ (bT hx_37 hg)) g3) ?_
      refine xg 119 (pB (v12_2 == x_36)) rfl rfl (fun hg => sf_seq (a := v12_2) (b := x_36) rfl rfl rfl g3) ?_
      refine xs 120 rfl (sf_pickA rfl rfl rfl rfl (fun hb => by rw [hb]; rfl) (fun _ => rfl) ?_)
      refine xm 121 (pB ((x_34 && (decide (v13_2 = (0 : Int)))) && (v12_2 == x_36))) ?_
      refine xg 122 (pI v15_2) rfl rfl (fun hg => sf_move (v := pI v15_2) rfl rfl g3) ?_
      refine xg 123 (pB (decide (v15_2 = (0 : Int)))) rfl rfl (fun hg => sf_eq (a := v15_2) (b := (0 : Int)) rfl rfl rfl g3) ?_
      refine xs 124 rfl (sf_pickA rfl rfl rfl rfl (fun hb => by rw [hb]; rfl) (fun _ => rfl) ?_)
      refine xm 125 (pB (((x_34 && (decide (v13_2 = (0 : Int)))) && (v12_2 == x_36)) && (decide (v15_2 = (0 : Int))))) ?_
      refine XK.gd (v := .d (.agg (cIndex (⟨v14_0_2⟩ : Index)))) (T := [1]) (some 126) rfl rfl (by repeat (first | exact trivial | refine ⟨fun q => by first | rfl | exact q | exact cda q | exact cdb q, ?_⟩)) (fun hg => sf_ldV (v := .agg [.d (.slice (v14_0_2.map (eL eRow)))]) rfl TT.tyA_71 rfl rfl ⟨⟨by simp, by simp⟩, rfl⟩ ⟨⟨rfl, rfl, rfl⟩, rfl, (Imp.toD rfl)⟩) (fun _ i hi => by simp only [List.mem_singleton] at hi; subst hi; decide) ?_
      obtain ⟨x_38, hx_39, h⟩ := bG h
      refine xg 127 (.d (.slice (x_38.map eRow))) rfl rfl (fun hg => sf_call rfl rfl TT.enters_56 rfl (sim_pindex_Index_All (⟨v14_0_2⟩ : Index) _ (bT hx_39 hg)) g3) ?_
      refine xg 128 (.d (.slice (v17_2.map eRow))) rfl rfl (fun hg => sf_move (v := .d (.slice (v17_2.map eRow))) rfl rfl g3) ?_
      obtain ⟨x_40, hx_41, h⟩ := bG h
      refine xg 129 (pB x_40) rfl rfl (fun hg => sf_call rfl rfl TT.enters_21 rfl (sim_ref47_Same x_38 v17_2 _ (bT hx_41 hg)) g3) ?_
      refine xs 130 rfl (sf_pickA rfl rfl rfl rfl (fun hb => by rw [hb]; rfl) (fun _ => rfl) ?_)
      refine xm 131 (pB ((((x_34 && (decide (v13_2 = (0 : Int)))) && (v12_2 == x_36)) && (decide (v15_2 = (0 : Int)))) && x_40)) ?_
      refine XK.gd (v := .d (.agg (cIndex (⟨v14_0_2⟩ : Index)))) (T := [1]) (some 132) rfl rfl (by repeat (first | exact trivial | refine ⟨fun q => by first | rfl | exact q | exact cda q | exact cdb q, ?_⟩)) (fun hg => sf_ldV (v := .agg [.d (.slice (v14_0_2.map (eL eRow)))]) rfl TT.tyA_71 rfl rfl ⟨⟨by simp, by simp⟩, rfl⟩ ⟨⟨rfl, rfl, rfl⟩, rfl, (Imp.toD rfl)⟩) (fun _ i hi => by simp only [List.mem_singleton] at hi; subst hi; decide) ?_
      obtain ⟨x_42, hx_43, h⟩ := bG h
      refine xg 133 (.d (.slice (x_42.map eI))) rfl rfl (fun hg => sf_call rfl rfl TT.enters_55 rfl (sim_pindex_Index_Pages (⟨v14_0_2⟩ : Index) _ (bT hx_43 hg)) g3) ?_
      refine xg 134 (pI (x_42.length : Int)) rfl rfl (fun hg => sf_lenL (en := eI) (l := x_42) rfl TT.under_81 rfl g3) ?_
      refine xg 135 (.d (.slice (v8_7.map (eL eRow)))) rfl rfl (fun hg => sf_move (v := .d (.slice (v8_7.map (eL eRow)))) rfl rfl g3) ?_
      refine xg 136 (pI (v8_7.length : Int)) rfl rfl (fun hg => sf_lenL (en := (eL eRow)) (l := v8_7) rfl TT.under_72 rfl g3) ?_
      refine xg 137 (pB (decide ((x_42.length : Int) = (v8_7.length : Int)))) rfl rfl (fun hg => sf_eq (a := (x_42.length : Int)) (b := (v8_7.length : Int)) rfl rfl rfl g3) ?_
      refine xs 138 rfl (sf_pickA rfl rfl rfl rfl (fun hb => by rw [hb]; rfl) (fun _ => rfl) ?_)
      refine xm 139 (pB (((((x_34 && (decide (v13_2 = (0 : Int)))) && (v12_2 == x_36)) && (decide (v15_2 = (0 : Int)))) && x_40) && (decide ((x_42.length : Int) = (v8_7.length : Int))))) ?_
      refine XK.gd (v := .d (.agg (cIndex (⟨v7_0_7⟩ : Index)))) (T := [0]) (some 140) rfl rfl (by repeat (first | exact trivial | refine ⟨fun q => by first | rfl | exact q | exact cda q | exact cdb q, ?_⟩)) (fun hg => sf_ldV (v := .agg [.d (.slice (v7_0_7.map (eL eRow)))]) rfl TT.tyA_71 rfl rfl ⟨⟨by simp, by simp⟩, rfl⟩ ⟨⟨rfl, rfl, rfl⟩, rfl, (Imp.toD rfl)⟩) (fun _ i hi => by simp only [List.mem_singleton] at hi; subst hi; decide) ?_
      refine xg 141 (.d (.agg (s1.1.map byteD))) rfl rfl (fun hg => sf_ldC (d := .agg (s1.1.map byteD)) rfl TT.tyA_35 rfl (ldc_all (by rw [List.length_map, s1.2])) g3) ?_
      obtain ⟨x_44, hx_45, h⟩ := bG h
      refine xg 142 (.d (.slice (x_44.map eRow))) rfl rfl (fun hg => sf_call rfl rfl TT.enters_62 rfl (sim_pindex_Index_Of (⟨v7_0_7⟩ : Index) s1 _ (bT hx_45 hg)) g3) ?_
      refine xg 143 (.own 2 (v16_2.map eRow)) rfl rfl (fun hg => sf_move (v := .own 2 (v16_2.map eRow)) rfl rfl g3) ?_
      obtain ⟨x_46, hx_47, h⟩ := bG h
      refine xg 144 (pB x_46) rfl rfl (fun hg => sf_call rfl rfl TT.enters_21 rfl (sim_ref47_Same x_44 v16_2 _ (bT hx_47 hg)) g3) ?_
      refine xs 145 rfl (sf_pickA rfl rfl rfl rfl (fun hb => by rw [hb]; rfl) (fun _ => rfl) ?_)
      refine xm 146 (pB ((((((x_34 && (decide (v13_2 = (0 : Int)))) && (v12_2 == x_36)) && (decide (v15_2 = (0 : Int)))) && x_40) && (decide ((x_42.length : Int) = (v8_7.length : Int)))) && x_46)) ?_
      refine xg 147 (pI (x_30.2)) rfl rfl (fun hg => sf_move (v := pI (x_30.2)) rfl rfl g3) ?_
      refine xg 148 (pB (!decide ((x_30.2) = (0 : Int)))) rfl rfl (fun hg => sf_ne (a := (x_30.2)) (b := (0 : Int)) rfl rfl rfl g3) ?_
      refine xg 149 (pB (!decide ((x_30.2) = (0 : Int)))) rfl rfl (fun hg => sf_move (v := pB (!decide ((x_30.2) = (0 : Int)))) rfl rfl g3) ?_
      refine XK.gd (v := .d (.agg (cIndex (x_30.1)))) (T := [3]) (some 150) rfl rfl (by repeat (first | exact trivial | refine ⟨fun q => by first | rfl | exact q | exact cda q | exact cdb q, ?_⟩)) (fun hg => sf_ldV (v := .agg [.d (.slice (((x_30.1).fpages).map (eL eRow)))]) rfl TT.tyA_71 rfl rfl ⟨⟨by simp, by simp⟩, rfl⟩ ⟨⟨rfl, rfl, rfl⟩, rfl, (Imp.toD rfl)⟩) (fun _ i hi => by simp only [List.mem_singleton] at hi; subst hi; decide) ?_
      obtain ⟨x_48, hx_49, h⟩ := bG h
      refine xg 151 (.d (.slice (x_48.map eRow))) rfl rfl (fun hg => sf_call rfl rfl TT.enters_56 rfl (sim_pindex_Index_All (x_30.1) _ (bT hx_49 hg)) g3) ?_
      refine xg 152 (pI (x_48.length : Int)) rfl rfl (fun hg => sf_lenL (en := eRow) (l := x_48) rfl TT.under_22 rfl g3) ?_
      refine xg 153 (pB (decide ((x_48.length : Int) = (0 : Int)))) rfl rfl (fun hg => sf_eq (a := (x_48.length : Int)) (b := (0 : Int)) rfl rfl rfl g3) ?_
      refine XK.gp (some 154) rfl rfl rfl rfl rfl rfl (fun h => h) (fun hg hb => by first | (rw [hg, hb]; rfl) | (simp only [hg, hb]; rfl) | simp_all) (fun _ _ => rfl) ((!decide ((x_30.2) = (0 : Int))) && (decide ((x_48.length : Int) = (0 : Int)))) (bif_and _ _) ?_
      refine xg 155 (pB ((!decide ((x_30.2) = (0 : Int))) && (decide ((x_48.length : Int) = (0 : Int))))) rfl rfl (fun hg => sf_move (v := pB ((!decide ((x_30.2) = (0 : Int))) && (decide ((x_48.length : Int) = (0 : Int))))) rfl rfl g3) ?_
      refine xg 156 (pI (x_30.2)) rfl rfl (fun hg => sf_move (v := pI (x_30.2)) rfl rfl g3) ?_
      refine xg 157 (pB (decide ((x_30.2) = (0 : Int)))) rfl rfl (fun hg => sf_eq (a := (x_30.2)) (b := (0 : Int)) rfl rfl rfl g3) ?_
      refine xg 158 (pB (decide ((x_30.2) = (0 : Int)))) rfl rfl (fun hg => sf_move (v := pB (decide ((x_30.2) = (0 : Int)))) rfl rfl g3) ?_
      refine xg 159 (pS (x_32.1)) rfl rfl (fun hg => sf_move (v := pS (x_32.1)) rfl rfl g3) ?_
      refine xg 160 (pS v12_2) rfl rfl (fun hg => sf_move (v := pS v12_2) rfl rfl g3) ?_
      refine xg 161 (pS more2) rfl rfl (fun hg => sf_move (v := pS more2) rfl rfl g3) ?_
      obtain ⟨c_50, h⟩ := gG h
      refine xg 162 (pS (v12_2 ++ more2)) rfl rfl (fun hg => sf_cat (a := v12_2) (b := more2) rfl rfl rfl (c_50 hg) g3) ?_
      refine xg 163 (pB (x_32.1 == (v12_2 ++ more2))) rfl rfl (fun hg => sf_seq (a := x_32.1) (b := (v12_2 ++ more2)) rfl rfl rfl g3) ?_
      refine XK.gp (some 164) rfl rfl rfl rfl rfl rfl (fun h => h) (fun hg hb => by first | (rw [hg, hb]; rfl) | (simp only [hg, hb]; rfl) | simp_all) (fun _ _ => rfl) ((decide ((x_30.2) = (0 : Int))) && (x_32.1 == (v12_2 ++ more2))) (bif_and _ _) ?_
      refine XK.gp (some 165) rfl rfl rfl rfl rfl rfl (fun h => h) (fun _ _ => rfl) (fun hg hb => by first | (rw [hg, hb]; rfl) | (simp only [hg, hb]; rfl) | simp_all) (((!decide ((x_30.2) = (0 : Int))) && (decide ((x_48.length : Int) = (0 : Int)))) || ((decide ((x_30.2) = (0 : Int))) && (x_32.1 == (v12_2 ++ more2)))) (bif_or _ _) ?_
      refine xs 166 rfl (sf_pickA rfl rfl rfl rfl (fun hb => by rw [hb]; rfl) (fun _ => rfl) ?_)
      refine xz 6 (pB (((((((x_34 && (decide (v13_2 = (0 : Int)))) && (v12_2 == x_36)) && (decide (v15_2 = (0 : Int)))) && x_40) && (decide ((x_42.length : Int) = (v8_7.length : Int)))) && x_46) && (((!decide ((x_30.2) = (0 : Int))) && (decide ((x_48.length : Int) = (0 : Int)))) || ((decide ((x_30.2) = (0 : Int))) && (x_32.1 == (v12_2 ++ more2)))))) ?_
      refine QW.ret zL ?_
      obtain rfl := sG h
      exact Ends.one (.inr rfl) rfl (ResIs.tmp rfl) rfl rfl
end Go.Proofs.Ytoeppofkmcdknaa.K
