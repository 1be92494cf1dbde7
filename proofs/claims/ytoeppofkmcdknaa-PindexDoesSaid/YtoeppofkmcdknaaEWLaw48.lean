/- The laws of layer 48: what they reckon. -/
import Derived.Test.YtoeppofkmcdknaaEWR47
import Derived.KernelRfl
namespace Go.Proofs.Ytoeppofkmcdknaa.K
open Go Go.RowKit
set_option linter.unusedSimpArgs false
set_option linter.unusedVariables false
set_option maxRecDepth 20000
set_option maxHeartbeats 4000000
namespace TT
theorem bldA_35 : bldA Try.prog 35 = some ([Value.int IntKind.u8 0, Value.int IntKind.u8 0, Value.int IntKind.u8 0, Value.int IntKind.u8 0, Value.int IntKind.u8 0, Value.int IntKind.u8 0, Value.int IntKind.u8 0, Value.int IntKind.u8 0, Value.int IntKind.u8 0, Value.int IntKind.u8 0, Value.int IntKind.u8 0, Value.int IntKind.u8 0, Value.int IntKind.u8 0, Value.int IntKind.u8 0, Value.int IntKind.u8 0, Value.int IntKind.u8 0, Value.int IntKind.u8 0, Value.int IntKind.u8 0, Value.int IntKind.u8 0, Value.int IntKind.u8 0, Value.int IntKind.u8 0, Value.int IntKind.u8 0, Value.int IntKind.u8 0, Value.int IntKind.u8 0, Value.int IntKind.u8 0, Value.int IntKind.u8 0, Value.int IntKind.u8 0, Value.int IntKind.u8 0, Value.int IntKind.u8 0, Value.int IntKind.u8 0, Value.int IntKind.u8 0, Value.int IntKind.u8 0], .inr 1) := by kernel_rfl
theorem enters_18 : entersB Try.prog 18 = true := by kernel_rfl
theorem enters_21 : entersB Try.prog 21 = true := by kernel_rfl
theorem enters_49 : entersB Try.prog 49 = true := by kernel_rfl
theorem enters_50 : entersB Try.prog 50 = true := by kernel_rfl
theorem enters_51 : entersB Try.prog 51 = true := by kernel_rfl
theorem enters_52 : entersB Try.prog 52 = true := by kernel_rfl
theorem enters_53 : entersB Try.prog 53 = true := by kernel_rfl
theorem enters_54 : entersB Try.prog 54 = true := by kernel_rfl
theorem enters_55 : entersB Try.prog 55 = true := by kernel_rfl
theorem enters_58 : entersB Try.prog 58 = true := by kernel_rfl
theorem enters_59 : entersB Try.prog 59 = true := by kernel_rfl
theorem enters_60 : entersB Try.prog 60 = true := by kernel_rfl
theorem enters_62 : entersB Try.prog 62 = true := by kernel_rfl
theorem fldA_74_0 : fldA Try.prog 74 0 = some (0, 1, false) := by kernel_rfl
theorem fldA_74_1 : fldA Try.prog 74 1 = some (1, 34, true) := by kernel_rfl
theorem res_49 : Try.f49.results.toList = [.tmp 0] := rfl
theorem res_9 : Try.f9.results.toList = [.tmp 4] := rfl
theorem slcA_68 : slcA Try.prog 68 = some (35, 64, true) := by kernel_rfl
theorem tyA_74 : tyA Try.prog 74 = some (true, 35) := by kernel_rfl
theorem under_4 : Program.underlying Try.prog 4 = some (.bool) := by kernel_rfl
theorem under_68 : Program.underlying Try.prog 68 = some (.slice 74) := by kernel_rfl
theorem zeroA_74 : zeroA Try.prog 74 = some [Value.int IntKind.i64 0, Value.int IntKind.u8 0, Value.int IntKind.u8 0, Value.int IntKind.u8 0, Value.int IntKind.u8 0, Value.int IntKind.u8 0, Value.int IntKind.u8 0, Value.int IntKind.u8 0, Value.int IntKind.u8 0, Value.int IntKind.u8 0, Value.int IntKind.u8 0, Value.int IntKind.u8 0, Value.int IntKind.u8 0, Value.int IntKind.u8 0, Value.int IntKind.u8 0, Value.int IntKind.u8 0, Value.int IntKind.u8 0, Value.int IntKind.u8 0, Value.int IntKind.u8 0, Value.int IntKind.u8 0, Value.int IntKind.u8 0, Value.int IntKind.u8 0, Value.int IntKind.u8 0, Value.int IntKind.u8 0, Value.int IntKind.u8 0, Value.int IntKind.u8 0, Value.int IntKind.u8 0, Value.int IntKind.u8 0, Value.int IntKind.u8 0, Value.int IntKind.u8 0, Value.int IntKind.u8 0, Value.int IntKind.u8 0, Value.int IntKind.u8 0, Value.int IntKind.i64 0, Value.string ⟨#[]⟩] := by kernel_rfl
end TT
inductive C_law48_awake where
  | S
  | L1 (v2 : Bool) (v3 : Int) (v1_0 : (List (List Row)))
noncomputable def step_law48_awake  : C_law48_awake → Option (C_law48_awake ⊕ Bool)
  | .S =>
    some (.inl (.L1 true (0) ([] : (List (List Row)))))
  | .L1 v2 v3 v1_0 =>
    (bif (decide (v3 < (9 : Int))) then
    ((g_pindex_Index_Put (⟨v1_0⟩ : Index) (⟨(⟨[(u8I v3), (0 : UInt8), (0 : UInt8), (0 : UInt8), (0 : UInt8), (0 : UInt8), (0 : UInt8), (0 : UInt8), (0 : UInt8), (0 : UInt8), (0 : UInt8), (0 : UInt8), (0 : UInt8), (0 : UInt8), (0 : UInt8), (0 : UInt8), (0 : UInt8), (0 : UInt8), (0 : UInt8), (0 : UInt8), (0 : UInt8), (0 : UInt8), (0 : UInt8), (0 : UInt8), (0 : UInt8), (0 : UInt8), (0 : UInt8), (0 : UInt8), (0 : UInt8), (0 : UInt8), (0 : UInt8), (0 : UInt8)], rfl⟩ : (Arr 32 UInt8)), 1, ([] : List UInt8)⟩ : Row)).bind fun (x_3 : (Index × Bool)) =>
    gO (inI (v3 + (1 : Int))) (
    some (.inl (.L1 (v2 && x_3.2) (v3 + (1 : Int)) ((x_3.1).fpages)))))
    else
    ((g_pindex_Index_Pages (⟨v1_0⟩ : Index)).bind fun (x_6 : (List Int)) =>
    ((g_pindex_Index_Get (⟨v1_0⟩ : Index) (⟨[(7 : UInt8), (0 : UInt8), (0 : UInt8), (0 : UInt8), (0 : UInt8), (0 : UInt8), (0 : UInt8), (0 : UInt8), (0 : UInt8), (0 : UInt8), (0 : UInt8), (0 : UInt8), (0 : UInt8), (0 : UInt8), (0 : UInt8), (0 : UInt8), (0 : UInt8), (0 : UInt8), (0 : UInt8), (0 : UInt8), (0 : UInt8), (0 : UInt8), (0 : UInt8), (0 : UInt8), (0 : UInt8), (0 : UInt8), (0 : UInt8), (0 : UInt8), (0 : UInt8), (0 : UInt8), (0 : UInt8), (0 : UInt8)], rfl⟩ : (Arr 32 UInt8)) (1)).bind fun (x_8 : (Row × Bool)) =>
    ((g_pindex_Index_Text (⟨v1_0⟩ : Index)).bind fun (x_10 : ((List UInt8) × Int)) =>
    ((g_pindex_Load (x_10.1)).bind fun (x_12 : (Index × Int)) =>
    ((g_pindex_Index_Drop (⟨v1_0⟩ : Index) (⟨[(0 : UInt8), (0 : UInt8), (0 : UInt8), (0 : UInt8), (0 : UInt8), (0 : UInt8), (0 : UInt8), (0 : UInt8), (0 : UInt8), (0 : UInt8), (0 : UInt8), (0 : UInt8), (0 : UInt8), (0 : UInt8), (0 : UInt8), (0 : UInt8), (0 : UInt8), (0 : UInt8), (0 : UInt8), (0 : UInt8), (0 : UInt8), (0 : UInt8), (0 : UInt8), (0 : UInt8), (0 : UInt8), (0 : UInt8), (0 : UInt8), (0 : UInt8), (0 : UInt8), (0 : UInt8), (0 : UInt8), (0 : UInt8)], rfl⟩ : (Arr 32 UInt8)) (1)).bind fun (x_14 : (Index × Bool)) =>
    gO (((v2 && (decide ((x_6.length : Int) = (2 : Int)))) == true) = true → 0 ≤ (0 : Int) ∧ (0 : Int) < (x_6.length : Int)) (
    gO ((((v2 && (decide ((x_6.length : Int) = (2 : Int)))) && (decide ((idx x_6 (0 : Int)) = (5 : Int)))) == true) = true → 0 ≤ (1 : Int) ∧ (1 : Int) < (x_6.length : Int)) (
    ((bif ((((((((v2 && (decide ((x_6.length : Int) = (2 : Int)))) && (decide ((idx x_6 (0 : Int)) = (5 : Int)))) && (decide ((idx x_6 (1 : Int)) = (4 : Int)))) && x_8.2) && (((x_8.1).fSum).1 == (⟨[(7 : UInt8), (0 : UInt8), (0 : UInt8), (0 : UInt8), (0 : UInt8), (0 : UInt8), (0 : UInt8), (0 : UInt8), (0 : UInt8), (0 : UInt8), (0 : UInt8), (0 : UInt8), (0 : UInt8), (0 : UInt8), (0 : UInt8), (0 : UInt8), (0 : UInt8), (0 : UInt8), (0 : UInt8), (0 : UInt8), (0 : UInt8), (0 : UInt8), (0 : UInt8), (0 : UInt8), (0 : UInt8), (0 : UInt8), (0 : UInt8), (0 : UInt8), (0 : UInt8), (0 : UInt8), (0 : UInt8), (0 : UInt8)], rfl⟩ : (Arr 32 UInt8)).1)) && (decide ((x_10.2) = (0 : Int)))) && (decide ((x_12.2) = (0 : Int)))) == true) then g_pindex_Index_All (x_12.1) else some default).bind fun (x_18 : (List Row)) =>
    ((bif ((((((((((v2 && (decide ((x_6.length : Int) = (2 : Int)))) && (decide ((idx x_6 (0 : Int)) = (5 : Int)))) && (decide ((idx x_6 (1 : Int)) = (4 : Int)))) && x_8.2) && (((x_8.1).fSum).1 == (⟨[(7 : UInt8), (0 : UInt8), (0 : UInt8), (0 : UInt8), (0 : UInt8), (0 : UInt8), (0 : UInt8), (0 : UInt8), (0 : UInt8), (0 : UInt8), (0 : UInt8), (0 : UInt8), (0 : UInt8), (0 : UInt8), (0 : UInt8), (0 : UInt8), (0 : UInt8), (0 : UInt8), (0 : UInt8), (0 : UInt8), (0 : UInt8), (0 : UInt8), (0 : UInt8), (0 : UInt8), (0 : UInt8), (0 : UInt8), (0 : UInt8), (0 : UInt8), (0 : UInt8), (0 : UInt8), (0 : UInt8), (0 : UInt8)], rfl⟩ : (Arr 32 UInt8)).1)) && (decide ((x_10.2) = (0 : Int)))) && (decide ((x_12.2) = (0 : Int)))) && (decide ((x_18.length : Int) = (9 : Int)))) && x_14.2) == true) then g_pindex_Index_Pages (x_14.1) else some default).bind fun (x_20 : (List Int)) =>
    ((bif (((((((((((v2 && (decide ((x_6.length : Int) = (2 : Int)))) && (decide ((idx x_6 (0 : Int)) = (5 : Int)))) && (decide ((idx x_6 (1 : Int)) = (4 : Int)))) && x_8.2) && (((x_8.1).fSum).1 == (⟨[(7 : UInt8), (0 : UInt8), (0 : UInt8), (0 : UInt8), (0 : UInt8), (0 : UInt8), (0 : UInt8), (0 : UInt8), (0 : UInt8), (0 : UInt8), (0 : UInt8), (0 : UInt8), (0 : UInt8), (0 : UInt8), (0 : UInt8), (0 : UInt8), (0 : UInt8), (0 : UInt8), (0 : UInt8), (0 : UInt8), (0 : UInt8), (0 : UInt8), (0 : UInt8), (0 : UInt8), (0 : UInt8), (0 : UInt8), (0 : UInt8), (0 : UInt8), (0 : UInt8), (0 : UInt8), (0 : UInt8), (0 : UInt8)], rfl⟩ : (Arr 32 UInt8)).1)) && (decide ((x_10.2) = (0 : Int)))) && (decide ((x_12.2) = (0 : Int)))) && (decide ((x_18.length : Int) = (9 : Int)))) && x_14.2) && (decide ((x_20.length : Int) = (1 : Int)))) == true) then g_pindex_Index_Of (⟨v1_0⟩ : Index) (⟨[(3 : UInt8), (0 : UInt8), (0 : UInt8), (0 : UInt8), (0 : UInt8), (0 : UInt8), (0 : UInt8), (0 : UInt8), (0 : UInt8), (0 : UInt8), (0 : UInt8), (0 : UInt8), (0 : UInt8), (0 : UInt8), (0 : UInt8), (0 : UInt8), (0 : UInt8), (0 : UInt8), (0 : UInt8), (0 : UInt8), (0 : UInt8), (0 : UInt8), (0 : UInt8), (0 : UInt8), (0 : UInt8), (0 : UInt8), (0 : UInt8), (0 : UInt8), (0 : UInt8), (0 : UInt8), (0 : UInt8), (0 : UInt8)], rfl⟩ : (Arr 32 UInt8)) else some default).bind fun (x_22 : (List Row)) =>
    some (.inr (((((((((((v2 && (decide ((x_6.length : Int) = (2 : Int)))) && (decide ((idx x_6 (0 : Int)) = (5 : Int)))) && (decide ((idx x_6 (1 : Int)) = (4 : Int)))) && x_8.2) && (((x_8.1).fSum).1 == (⟨[(7 : UInt8), (0 : UInt8), (0 : UInt8), (0 : UInt8), (0 : UInt8), (0 : UInt8), (0 : UInt8), (0 : UInt8), (0 : UInt8), (0 : UInt8), (0 : UInt8), (0 : UInt8), (0 : UInt8), (0 : UInt8), (0 : UInt8), (0 : UInt8), (0 : UInt8), (0 : UInt8), (0 : UInt8), (0 : UInt8), (0 : UInt8), (0 : UInt8), (0 : UInt8), (0 : UInt8), (0 : UInt8), (0 : UInt8), (0 : UInt8), (0 : UInt8), (0 : UInt8), (0 : UInt8), (0 : UInt8), (0 : UInt8)], rfl⟩ : (Arr 32 UInt8)).1)) && (decide ((x_10.2) = (0 : Int)))) && (decide ((x_12.2) = (0 : Int)))) && (decide ((x_18.length : Int) = (9 : Int)))) && x_14.2) && (decide ((x_20.length : Int) = (1 : Int)))) && (decide ((x_22.length : Int) = (1 : Int))))))))))))))))
noncomputable def g_law48_awake  : Option Bool := theC (step_law48_awake ) .S
theorem sim_law48_awake  (r : Bool) (h : g_law48_awake  = some r) : Fun Try.prog 49 [] (.val (.bool r)) := by
  refine Fun.of_bodyQ Try.func49 rfl (by simp [Try.ntmps49]) ?_
  rw [Try.ntmps49, TT.res_49]
  refine QW.view (s' := ⟨tab [], tabH [], 0, []⟩) (View.init (by rfl)) zL ?_
  replace h := theC_get h
  obtain ⟨_, h⟩ := h
  obtain ⟨k_0, rfl, h9⟩ := run_succ h; replace h := h9; clear h9; rw [step_law48_awake] at h
  refine sR ?_
  refine xz 0 (pB false) ?_
  refine sR ?_
  refine xs 1 rfl (sf_alloc (l := [.full (([] : (List (List Row))).map (eL eRow))]) rfl TT.zeroA_71 rfl rfl ?_)
  refine XK.nz ?_
  refine sR ?_
  refine xz 2 (pB true) ?_
  refine QW.seq ?_
  refine sR ?_
  refine xz 3 (pI (0)) ?_
  refine QW.block ?_
  refine QW.loop (fun k σ => ∃ v2 : Bool, ∃ v3 : Int, ∃ v1_0 : (List (List Row)), k ≤ k_0 ∧ run step_law48_awake k (.L1 v2 v3 v1_0) = some r ∧ σ = ⟨tab [(1, .vptr 0 0), (2, pB v2), (3, pI v3)], tabH [.var [.d (.slice (v1_0.map (eL eRow)))]], 1, []⟩) k_0 zL ⟨⟨tab [(1, .vptr 0 0), (2, pB true), (3, pI (0))], tabH [.var [.d (.slice (([] : (List (List Row))).map (eL eRow)))]], 1, []⟩, View.trans (View.castV 0 0 rfl rfl rfl zL) (View.mk 1 [0] _ _ _ rfl rfl (by decide) (iC (iC (iC trivial))) (And.intro rfl trivial) rfl zL rfl), true, 0, ([] : (List (List Row))), Nat.le_refl _, jG h, rfl⟩ ?_
  rintro k_1s _ ⟨v2, v3, v1_0, k_1h, h, rfl⟩
  obtain ⟨k_1, rfl, h9⟩ := run_succ h; replace h := h9; clear h9; rw [step_law48_awake] at h
  refine QW.seq ?_
  refine sR ?_
  refine xm 15 (pI v3) ?_
  refine xs 16 rfl (sf_lss (a := v3) (b := (9 : Int)) rfl rfl rfl ?_)
  refine XK.nz ?_
  refine QW.cond (t := (decide (v3 < (9 : Int)))) rfl zL (fun hb_2 => ?_) (fun hb_2 => ?_)
  · replace h := bGT h hb_2
    refine QW.skip zL (nrm ?_)
    refine QW.seq ?_
    refine QW.block ?_
    refine sR ?_
    refine XK.as (some 20) rfl rfl (sf_ldV (v := .agg [.d (.slice (v1_0.map (eL eRow)))]) rfl TT.tyA_71 rfl rfl ⟨⟨by simp, by simp⟩, rfl⟩ ⟨.d (.agg (cIndex (⟨v1_0⟩ : Index))), (Imp.toD rfl), ?_⟩)
    refine xm 21 (pI v3) ?_
    refine xs 22 rfl (sf_toU8 (n := v3) rfl TT.under_3 TT.under_5 rfl ?_)
    refine XK.as (some 23) rfl rfl (sf_build (v := .agg [.d (.val (.int .u8 ((u8I v3).toNat : Int))), .d (.val (.int .u8 ((0 : UInt8).toNat : Int))), .d (.val (.int .u8 ((0 : UInt8).toNat : Int))), .d (.val (.int .u8 ((0 : UInt8).toNat : Int))), .d (.val (.int .u8 ((0 : UInt8).toNat : Int))), .d (.val (.int .u8 ((0 : UInt8).toNat : Int))), .d (.val (.int .u8 ((0 : UInt8).toNat : Int))), .d (.val (.int .u8 ((0 : UInt8).toNat : Int))), .d (.val (.int .u8 ((0 : UInt8).toNat : Int))), .d (.val (.int .u8 ((0 : UInt8).toNat : Int))), .d (.val (.int .u8 ((0 : UInt8).toNat : Int))), .d (.val (.int .u8 ((0 : UInt8).toNat : Int))), .d (.val (.int .u8 ((0 : UInt8).toNat : Int))), .d (.val (.int .u8 ((0 : UInt8).toNat : Int))), .d (.val (.int .u8 ((0 : UInt8).toNat : Int))), .d (.val (.int .u8 ((0 : UInt8).toNat : Int))), .d (.val (.int .u8 ((0 : UInt8).toNat : Int))), .d (.val (.int .u8 ((0 : UInt8).toNat : Int))), .d (.val (.int .u8 ((0 : UInt8).toNat : Int))), .d (.val (.int .u8 ((0 : UInt8).toNat : Int))), .d (.val (.int .u8 ((0 : UInt8).toNat : Int))), .d (.val (.int .u8 ((0 : UInt8).toNat : Int))), .d (.val (.int .u8 ((0 : UInt8).toNat : Int))), .d (.val (.int .u8 ((0 : UInt8).toNat : Int))), .d (.val (.int .u8 ((0 : UInt8).toNat : Int))), .d (.val (.int .u8 ((0 : UInt8).toNat : Int))), .d (.val (.int .u8 ((0 : UInt8).toNat : Int))), .d (.val (.int .u8 ((0 : UInt8).toNat : Int))), .d (.val (.int .u8 ((0 : UInt8).toNat : Int))), .d (.val (.int .u8 ((0 : UInt8).toNat : Int))), .d (.val (.int .u8 ((0 : UInt8).toNat : Int))), .d (.val (.int .u8 ((0 : UInt8).toNat : Int)))]) rfl (by rw [TT.bldA_35]; simp [buildP, fillP, placeOf, partsQ, evP, PV.solid, PV.cellsP, Value.oneCell', spl, cellV, ofVal, List.all, putS_at, tab, unS, unT, asCond, unC]) (by rw [TT.bldA_35]; rfl) ⟨.d (.agg ((⟨[(u8I v3), (0 : UInt8), (0 : UInt8), (0 : UInt8), (0 : UInt8), (0 : UInt8), (0 : UInt8), (0 : UInt8), (0 : UInt8), (0 : UInt8), (0 : UInt8), (0 : UInt8), (0 : UInt8), (0 : UInt8), (0 : UInt8), (0 : UInt8), (0 : UInt8), (0 : UInt8), (0 : UInt8), (0 : UInt8), (0 : UInt8), (0 : UInt8), (0 : UInt8), (0 : UInt8), (0 : UInt8), (0 : UInt8), (0 : UInt8), (0 : UInt8), (0 : UInt8), (0 : UInt8), (0 : UInt8), (0 : UInt8)], rfl⟩ : (Arr 32 UInt8)).1.map byteD)), (Imp.toD rfl), ?_⟩)
    refine XK.as (some 24) rfl rfl (sf_bld (v := .agg ((cRow (⟨(⟨[(u8I v3), (0 : UInt8), (0 : UInt8), (0 : UInt8), (0 : UInt8), (0 : UInt8), (0 : UInt8), (0 : UInt8), (0 : UInt8), (0 : UInt8), (0 : UInt8), (0 : UInt8), (0 : UInt8), (0 : UInt8), (0 : UInt8), (0 : UInt8), (0 : UInt8), (0 : UInt8), (0 : UInt8), (0 : UInt8), (0 : UInt8), (0 : UInt8), (0 : UInt8), (0 : UInt8), (0 : UInt8), (0 : UInt8), (0 : UInt8), (0 : UInt8), (0 : UInt8), (0 : UInt8), (0 : UInt8), (0 : UInt8)], rfl⟩ : (Arr 32 UInt8)), 1, ([] : List UInt8)⟩ : Row)).map .d)) rfl TT.bldA_37 (bld_Row_0_1 (⟨[(u8I v3), (0 : UInt8), (0 : UInt8), (0 : UInt8), (0 : UInt8), (0 : UInt8), (0 : UInt8), (0 : UInt8), (0 : UInt8), (0 : UInt8), (0 : UInt8), (0 : UInt8), (0 : UInt8), (0 : UInt8), (0 : UInt8), (0 : UInt8), (0 : UInt8), (0 : UInt8), (0 : UInt8), (0 : UInt8), (0 : UInt8), (0 : UInt8), (0 : UInt8), (0 : UInt8), (0 : UInt8), (0 : UInt8), (0 : UInt8), (0 : UInt8), (0 : UInt8), (0 : UInt8), (0 : UInt8), (0 : UInt8)], rfl⟩ : (Arr 32 UInt8)) (1)) ⟨.d (.agg (cRow (⟨(⟨[(u8I v3), (0 : UInt8), (0 : UInt8), (0 : UInt8), (0 : UInt8), (0 : UInt8), (0 : UInt8), (0 : UInt8), (0 : UInt8), (0 : UInt8), (0 : UInt8), (0 : UInt8), (0 : UInt8), (0 : UInt8), (0 : UInt8), (0 : UInt8), (0 : UInt8), (0 : UInt8), (0 : UInt8), (0 : UInt8), (0 : UInt8), (0 : UInt8), (0 : UInt8), (0 : UInt8), (0 : UInt8), (0 : UInt8), (0 : UInt8), (0 : UInt8), (0 : UInt8), (0 : UInt8), (0 : UInt8), (0 : UInt8)], rfl⟩ : (Arr 32 UInt8)), 1, ([] : List UInt8)⟩ : Row))), imp_arr, ?_⟩)
    obtain ⟨x_3, hx_4, h⟩ := bG h
    refine xs 25 rfl (sf_call rfl rfl TT.enters_53 rfl (sim_pindex_Index_Put (⟨v1_0⟩ : Index) (⟨(⟨[(u8I v3), (0 : UInt8), (0 : UInt8), (0 : UInt8), (0 : UInt8), (0 : UInt8), (0 : UInt8), (0 : UInt8), (0 : UInt8), (0 : UInt8), (0 : UInt8), (0 : UInt8), (0 : UInt8), (0 : UInt8), (0 : UInt8), (0 : UInt8), (0 : UInt8), (0 : UInt8), (0 : UInt8), (0 : UInt8), (0 : UInt8), (0 : UInt8), (0 : UInt8), (0 : UInt8), (0 : UInt8), (0 : UInt8), (0 : UInt8), (0 : UInt8), (0 : UInt8), (0 : UInt8), (0 : UInt8), (0 : UInt8)], rfl⟩ : (Arr 32 UInt8)), 1, ([] : List UInt8)⟩ : Row) _ hx_4) ?_)
    refine xm 19 (.d (.tuple [.agg (cIndex (x_3.1)), .val (.bool (x_3.2))])) ?_
    refine xs 26 rfl (sf_extract rfl rfl rfl ?_)
    refine xs 27 rfl (sf_extract rfl rfl rfl ?_)
    refine xs 4 rfl (sf_alloc (l := [.full (([] : (List (List Row))).map (eL eRow))]) rfl TT.zeroA_71 rfl rfl ?_)
    refine XK.st none rfl rfl (sf_stV (l' := [.d (.slice (((x_3.1).fpages).map (eL eRow)))]) rfl TT.tyA_71 rfl rfl rfl rfl rfl rfl (by simp) rfl ?_)
    refine xz 5 (pB (x_3.2)) ?_
    refine sR ?_
    refine xm 28 (pB v2) ?_
    refine xm 29 (pB v2) ?_
    refine xg 30 (pB (x_3.2)) rfl rfl (fun hg => sf_move (v := pB (x_3.2)) rfl rfl g3) ?_
    refine xs 31 rfl (sf_pickA rfl rfl rfl rfl (fun hb => by rw [hb]; rfl) (fun _ => rfl) ?_)
    refine xz 2 (pB (v2 && x_3.2)) ?_
    refine QW.view (s' := ⟨tab [(1, .vptr 0 0), (2, pB (v2 && x_3.2)), (3, pI v3), (4, .vptr 1 0)], tabH [.var [.d (.slice (v1_0.map (eL eRow)))], .var [.d (.slice (((x_3.1).fpages).map (eL eRow)))]], 2, []⟩) (View.mk 2 [0, 1] _ _ _ rfl rfl (by decide) (iC (iC (iC (iC trivial)))) (And.intro rfl (And.intro rfl trivial)) rfl zL rfl) zL ?_
    refine rG ?_
    refine XK.as (some 32) rfl rfl (sf_ldV (v := .agg [.d (.slice (((x_3.1).fpages).map (eL eRow)))]) rfl TT.tyA_71 rfl rfl ⟨⟨by simp, by simp⟩, rfl⟩ ⟨.d (.agg (cIndex (x_3.1))), (Imp.toD rfl), ?_⟩)
    refine XK.st none rfl rfl (sf_stV (l' := [.d (.slice (((x_3.1).fpages).map (eL eRow)))]) rfl TT.tyA_71 rfl rfl rfl rfl rfl rfl (by simp) rfl ?_)
    refine XK.nil (blN (nrm ?_))
    refine rG ?_
    refine xm 17 (pI v3) ?_
    obtain ⟨c_5, h⟩ := gG h
    refine xs 18 rfl (sf_add (a := v3) (b := (1 : Int)) rfl rfl rfl c_5 ?_)
    refine xz 3 (pI (v3 + (1 : Int))) ?_
    exact ⟨k_1, by omega, ⟨tab [(1, .vptr 0 0), (2, pB (v2 && x_3.2)), (3, pI (v3 + (1 : Int)))], tabH [.var [.d (.slice (((x_3.1).fpages).map (eL eRow)))]], 1, []⟩, View.mk 1 [0] _ _ _ rfl rfl (by decide) (iC (iC (iC trivial))) (And.intro rfl trivial) rfl zL rfl, (v2 && x_3.2), (v3 + (1 : Int)), (x_3.1).fpages, by omega, jG h, rfl⟩
  · replace h := bGF h hb_2
    refine QW.exit zL (thX (thX (exE (nrm ?_))))
    refine sR ?_
    refine XK.as (some 33) rfl rfl (sf_ldV (v := .agg [.d (.slice (v1_0.map (eL eRow)))]) rfl TT.tyA_71 rfl rfl ⟨⟨by simp, by simp⟩, rfl⟩ ⟨.d (.agg (cIndex (⟨v1_0⟩ : Index))), (Imp.toD rfl), ?_⟩)
    obtain ⟨x_6, hx_7, h⟩ := bG h
    refine xs 34 rfl (sf_call rfl rfl TT.enters_55 rfl (sim_pindex_Index_Pages (⟨v1_0⟩ : Index) _ hx_7) ?_)
    refine xz 6 (.d (.slice (x_6.map eI))) ?_
    refine sR ?_
    refine XK.as (some 36) rfl rfl (sf_ldV (v := .agg [.d (.slice (v1_0.map (eL eRow)))]) rfl TT.tyA_71 rfl rfl ⟨⟨by simp, by simp⟩, rfl⟩ ⟨.d (.agg (cIndex (⟨v1_0⟩ : Index))), (Imp.toD rfl), ?_⟩)
    refine XK.as (some 37) rfl rfl (sf_build (v := .agg [.d (.val (.int .u8 ((7 : UInt8).toNat : Int))), .d (.val (.int .u8 ((0 : UInt8).toNat : Int))), .d (.val (.int .u8 ((0 : UInt8).toNat : Int))), .d (.val (.int .u8 ((0 : UInt8).toNat : Int))), .d (.val (.int .u8 ((0 : UInt8).toNat : Int))), .d (.val (.int .u8 ((0 : UInt8).toNat : Int))), .d (.val (.int .u8 ((0 : UInt8).toNat : Int))), .d (.val (.int .u8 ((0 : UInt8).toNat : Int))), .d (.val (.int .u8 ((0 : UInt8).toNat : Int))), .d (.val (.int .u8 ((0 : UInt8).toNat : Int))), .d (.val (.int .u8 ((0 : UInt8).toNat : Int))), .d (.val (.int .u8 ((0 : UInt8).toNat : Int))), .d (.val (.int .u8 ((0 : UInt8).toNat : Int))), .d (.val (.int .u8 ((0 : UInt8).toNat : Int))), .d (.val (.int .u8 ((0 : UInt8).toNat : Int))), .d (.val (.int .u8 ((0 : UInt8).toNat : Int))), .d (.val (.int .u8 ((0 : UInt8).toNat : Int))), .d (.val (.int .u8 ((0 : UInt8).toNat : Int))), .d (.val (.int .u8 ((0 : UInt8).toNat : Int))), .d (.val (.int .u8 ((0 : UInt8).toNat : Int))), .d (.val (.int .u8 ((0 : UInt8).toNat : Int))), .d (.val (.int .u8 ((0 : UInt8).toNat : Int))), .d (.val (.int .u8 ((0 : UInt8).toNat : Int))), .d (.val (.int .u8 ((0 : UInt8).toNat : Int))), .d (.val (.int .u8 ((0 : UInt8).toNat : Int))), .d (.val (.int .u8 ((0 : UInt8).toNat : Int))), .d (.val (.int .u8 ((0 : UInt8).toNat : Int))), .d (.val (.int .u8 ((0 : UInt8).toNat : Int))), .d (.val (.int .u8 ((0 : UInt8).toNat : Int))), .d (.val (.int .u8 ((0 : UInt8).toNat : Int))), .d (.val (.int .u8 ((0 : UInt8).toNat : Int))), .d (.val (.int .u8 ((0 : UInt8).toNat : Int)))]) rfl (by rw [TT.bldA_35]; simp [buildP, fillP, placeOf, partsQ, evP, PV.solid, PV.cellsP, Value.oneCell', spl, cellV, ofVal, List.all, putS_at, tab, unS, unT, asCond, unC]) (by rw [TT.bldA_35]; rfl) ⟨.d (.agg ((⟨[(7 : UInt8), (0 : UInt8), (0 : UInt8), (0 : UInt8), (0 : UInt8), (0 : UInt8), (0 : UInt8), (0 : UInt8), (0 : UInt8), (0 : UInt8), (0 : UInt8), (0 : UInt8), (0 : UInt8), (0 : UInt8), (0 : UInt8), (0 : UInt8), (0 : UInt8), (0 : UInt8), (0 : UInt8), (0 : UInt8), (0 : UInt8), (0 : UInt8), (0 : UInt8), (0 : UInt8), (0 : UInt8), (0 : UInt8), (0 : UInt8), (0 : UInt8), (0 : UInt8), (0 : UInt8), (0 : UInt8), (0 : UInt8)], rfl⟩ : (Arr 32 UInt8)).1.map byteD)), (Imp.toD rfl), ?_⟩)
    obtain ⟨x_8, hx_9, h⟩ := bG h
    refine xs 38 rfl (sf_call rfl rfl TT.enters_58 rfl (sim_pindex_Index_Get (⟨v1_0⟩ : Index) (⟨[(7 : UInt8), (0 : UInt8), (0 : UInt8), (0 : UInt8), (0 : UInt8), (0 : UInt8), (0 : UInt8), (0 : UInt8), (0 : UInt8), (0 : UInt8), (0 : UInt8), (0 : UInt8), (0 : UInt8), (0 : UInt8), (0 : UInt8), (0 : UInt8), (0 : UInt8), (0 : UInt8), (0 : UInt8), (0 : UInt8), (0 : UInt8), (0 : UInt8), (0 : UInt8), (0 : UInt8), (0 : UInt8), (0 : UInt8), (0 : UInt8), (0 : UInt8), (0 : UInt8), (0 : UInt8), (0 : UInt8), (0 : UInt8)], rfl⟩ : (Arr 32 UInt8)) (1) _ hx_9) ?_)
    refine xm 35 (.d (.tuple [.agg (cRow (x_8.1)), .val (.bool (x_8.2))])) ?_
    refine xs 39 rfl (sf_extract rfl rfl rfl ?_)
    refine xs 40 rfl (sf_extract rfl rfl rfl ?_)
    refine xs 7 rfl (sf_alloc (l := ((cRow (⟨(Arr.rep 32 (0 : UInt8)), (0 : Int), ([] : (List UInt8))⟩ : Row)).map .d)) rfl TT.zeroA_37 rfl rfl ?_)
    refine XK.st none rfl rfl (sf_stV (l' := ((cRow (x_8.1)).map .d)) rfl TT.tyA_37 rfl rfl rfl rfl rfl (len_dd (lay_Row.len _)) (le_dd (lay_Row.len _)) (spl_dd ((lay_Row.len _).trans (lay_Row.len _).symm)) ?_)
    refine xz 8 (pB (x_8.2)) ?_
    refine sR ?_
    refine XK.as (some 42) rfl rfl (sf_ldV (v := .agg [.d (.slice (v1_0.map (eL eRow)))]) rfl TT.tyA_71 rfl rfl ⟨⟨by simp, by simp⟩, rfl⟩ ⟨.d (.agg (cIndex (⟨v1_0⟩ : Index))), (Imp.toD rfl), ?_⟩)
    obtain ⟨x_10, hx_11, h⟩ := bG h
    refine xs 43 rfl (sf_call rfl rfl TT.enters_59 rfl (sim_pindex_Index_Text (⟨v1_0⟩ : Index) _ hx_11) ?_)
    refine xm 41 (.d (.tuple [.val (sV (x_10.1)), .val (.int .i64 (x_10.2))])) ?_
    refine xs 44 rfl (sf_extract rfl rfl rfl ?_)
    refine xs 45 rfl (sf_extract rfl rfl rfl ?_)
    refine xa 9 (pS (x_10.1)) ?_
    refine xz 10 (pI (x_10.2)) ?_
    refine QW.seq ?_
    refine QW.view (s' := ⟨tab [(1, .vptr 0 0), (2, pB v2), (6, .d (.slice (x_6.map eI))), (7, .vptr 1 0), (8, pB (x_8.2)), (9, pS (x_10.1)), (10, pI (x_10.2))], tabH [.var [.d (.slice (v1_0.map (eL eRow)))], .var ((cRow (x_8.1)).map .d)], 2, []⟩) (View.mk 2 [0, 1] _ _ _ rfl rfl (by decide) (iC (iC (iC (iC (iC (iC (iC trivial))))))) (And.intro rfl (And.intro (by simp only [atH1, rowC, PV.res_d]; rfl) trivial)) rfl zL rfl) zL ?_
    refine rG ?_
    refine xm 47 (pS (x_10.1)) ?_
    obtain ⟨x_12, hx_13, h⟩ := bG h
    refine xs 48 rfl (sf_call rfl rfl TT.enters_60 rfl (sim_pindex_Load (x_10.1) _ hx_13) ?_)
    refine xm 46 (.d (.tuple [.agg (cIndex (x_12.1)), .val (.int .i64 (x_12.2))])) ?_
    refine xs 49 rfl (sf_extract rfl rfl rfl ?_)
    refine xs 50 rfl (sf_extract rfl rfl rfl ?_)
    refine xs 11 rfl (sf_alloc (l := [.full (([] : (List (List Row))).map (eL eRow))]) rfl TT.zeroA_71 rfl rfl ?_)
    refine XK.st none rfl rfl (sf_stV (l' := [.d (.slice (((x_12.1).fpages).map (eL eRow)))]) rfl TT.tyA_71 rfl rfl rfl rfl rfl rfl (by simp) rfl ?_)
    refine xz 12 (pI (x_12.2)) ?_
    refine sR ?_
    refine XK.as (some 52) rfl rfl (sf_ldV (v := .agg [.d (.slice (v1_0.map (eL eRow)))]) rfl TT.tyA_71 rfl rfl ⟨⟨by simp, by simp⟩, rfl⟩ ⟨.d (.agg (cIndex (⟨v1_0⟩ : Index))), (Imp.toD rfl), ?_⟩)
    refine XK.as (some 53) rfl rfl (sf_build (v := .agg [.d (.val (.int .u8 ((0 : UInt8).toNat : Int))), .d (.val (.int .u8 ((0 : UInt8).toNat : Int))), .d (.val (.int .u8 ((0 : UInt8).toNat : Int))), .d (.val (.int .u8 ((0 : UInt8).toNat : Int))), .d (.val (.int .u8 ((0 : UInt8).toNat : Int))), .d (.val (.int .u8 ((0 : UInt8).toNat : Int))), .d (.val (.int .u8 ((0 : UInt8).toNat : Int))), .d (.val (.int .u8 ((0 : UInt8).toNat : Int))), .d (.val (.int .u8 ((0 : UInt8).toNat : Int))), .d (.val (.int .u8 ((0 : UInt8).toNat : Int))), .d (.val (.int .u8 ((0 : UInt8).toNat : Int))), .d (.val (.int .u8 ((0 : UInt8).toNat : Int))), .d (.val (.int .u8 ((0 : UInt8).toNat : Int))), .d (.val (.int .u8 ((0 : UInt8).toNat : Int))), .d (.val (.int .u8 ((0 : UInt8).toNat : Int))), .d (.val (.int .u8 ((0 : UInt8).toNat : Int))), .d (.val (.int .u8 ((0 : UInt8).toNat : Int))), .d (.val (.int .u8 ((0 : UInt8).toNat : Int))), .d (.val (.int .u8 ((0 : UInt8).toNat : Int))), .d (.val (.int .u8 ((0 : UInt8).toNat : Int))), .d (.val (.int .u8 ((0 : UInt8).toNat : Int))), .d (.val (.int .u8 ((0 : UInt8).toNat : Int))), .d (.val (.int .u8 ((0 : UInt8).toNat : Int))), .d (.val (.int .u8 ((0 : UInt8).toNat : Int))), .d (.val (.int .u8 ((0 : UInt8).toNat : Int))), .d (.val (.int .u8 ((0 : UInt8).toNat : Int))), .d (.val (.int .u8 ((0 : UInt8).toNat : Int))), .d (.val (.int .u8 ((0 : UInt8).toNat : Int))), .d (.val (.int .u8 ((0 : UInt8).toNat : Int))), .d (.val (.int .u8 ((0 : UInt8).toNat : Int))), .d (.val (.int .u8 ((0 : UInt8).toNat : Int))), .d (.val (.int .u8 ((0 : UInt8).toNat : Int)))]) rfl (by rw [TT.bldA_35]; simp [buildP, fillP, placeOf, partsQ, evP, PV.solid, PV.cellsP, Value.oneCell', spl, cellV, ofVal, List.all, putS_at, tab, unS, unT, asCond, unC]) (by rw [TT.bldA_35]; rfl) ⟨.d (.agg ((⟨[(0 : UInt8), (0 : UInt8), (0 : UInt8), (0 : UInt8), (0 : UInt8), (0 : UInt8), (0 : UInt8), (0 : UInt8), (0 : UInt8), (0 : UInt8), (0 : UInt8), (0 : UInt8), (0 : UInt8), (0 : UInt8), (0 : UInt8), (0 : UInt8), (0 : UInt8), (0 : UInt8), (0 : UInt8), (0 : UInt8), (0 : UInt8), (0 : UInt8), (0 : UInt8), (0 : UInt8), (0 : UInt8), (0 : UInt8), (0 : UInt8), (0 : UInt8), (0 : UInt8), (0 : UInt8), (0 : UInt8), (0 : UInt8)], rfl⟩ : (Arr 32 UInt8)).1.map byteD)), (Imp.toD rfl), ?_⟩)
    obtain ⟨x_14, hx_15, h⟩ := bG h
    refine xs 54 rfl (sf_call rfl rfl TT.enters_51 rfl (sim_pindex_Index_Drop (⟨v1_0⟩ : Index) (⟨[(0 : UInt8), (0 : UInt8), (0 : UInt8), (0 : UInt8), (0 : UInt8), (0 : UInt8), (0 : UInt8), (0 : UInt8), (0 : UInt8), (0 : UInt8), (0 : UInt8), (0 : UInt8), (0 : UInt8), (0 : UInt8), (0 : UInt8), (0 : UInt8), (0 : UInt8), (0 : UInt8), (0 : UInt8), (0 : UInt8), (0 : UInt8), (0 : UInt8), (0 : UInt8), (0 : UInt8), (0 : UInt8), (0 : UInt8), (0 : UInt8), (0 : UInt8), (0 : UInt8), (0 : UInt8), (0 : UInt8), (0 : UInt8)], rfl⟩ : (Arr 32 UInt8)) (1) _ hx_15) ?_)
    refine xm 51 (.d (.tuple [.agg (cIndex (x_14.1)), .val (.bool (x_14.2))])) ?_
    refine xs 55 rfl (sf_extract rfl rfl rfl ?_)
    refine xs 56 rfl (sf_extract rfl rfl rfl ?_)
    refine xs 13 rfl (sf_alloc (l := [.full (([] : (List (List Row))).map (eL eRow))]) rfl TT.zeroA_71 rfl rfl ?_)
    refine XK.st none rfl rfl (sf_stV (l' := [.d (.slice (((x_14.1).fpages).map (eL eRow)))]) rfl TT.tyA_71 rfl rfl rfl rfl rfl rfl (by simp) rfl ?_)
    refine xz 14 (pB (x_14.2)) ?_
    refine QW.seq ?_
    refine QW.view (s' := ⟨tab [(1, .vptr 0 0), (2, pB v2), (6, .d (.slice (x_6.map eI))), (7, .vptr 1 0), (8, pB (x_8.2)), (10, pI (x_10.2)), (11, .vptr 2 0), (12, pI (x_12.2)), (13, .vptr 3 0), (14, pB (x_14.2))], tabH [.var [.d (.slice (v1_0.map (eL eRow)))], .var ((cRow (x_8.1)).map .d), .var [.d (.slice (((x_12.1).fpages).map (eL eRow)))], .var [.d (.slice (((x_14.1).fpages).map (eL eRow)))]], 4, []⟩) (View.mk 4 [0, 1, 2, 3] _ _ _ rfl rfl (by decide) (iC (iC (iC (iC (iC (iC (iC (iC (iC (iC trivial)))))))))) (And.intro rfl (And.intro (by simp only [atH1, rowC, PV.res_d]; rfl) (And.intro rfl (And.intro rfl trivial)))) rfl zL rfl) zL ?_
    refine rG ?_
    refine xm 57 (pB v2) ?_
    refine xm 58 (pB v2) ?_
    refine xg 59 (.d (.slice (x_6.map eI))) rfl rfl (fun hg => sf_move (v := .d (.slice (x_6.map eI))) rfl rfl g3) ?_
    refine xg 60 (pI (x_6.length : Int)) rfl rfl (fun hg => sf_lenL (en := eI) (l := x_6) rfl TT.under_81 rfl g3) ?_
    refine xg 61 (pB (decide ((x_6.length : Int) = (2 : Int)))) rfl rfl (fun hg => sf_eq (a := (x_6.length : Int)) (b := (2 : Int)) rfl rfl rfl g3) ?_
    refine xs 62 rfl (sf_pickA rfl rfl rfl rfl (fun hb => by rw [hb]; rfl) (fun _ => rfl) ?_)
    refine xm 63 (pB (v2 && (decide ((x_6.length : Int) = (2 : Int))))) ?_
    refine xg 64 (.d (.slice (x_6.map eI))) rfl rfl (fun hg => sf_move (v := .d (.slice (x_6.map eI))) rfl rfl g3) ?_
    obtain ⟨c_16, h⟩ := gG h
    refine xg 65 (.d (.cptr ([.val (.int .i64 (idx x_6 (0 : Int)))]))) rfl rfl (fun hg => sf_idxA (l := x_6) (i := (0 : Int)) rfl TT.slcA_81 lay_I rfl rfl (c_16 hg) g3) ?_
    refine xg 66 (pI (idx x_6 (0 : Int))) rfl rfl (fun hg => sf_ldC (d := .val (.int .i64 (idx x_6 (0 : Int)))) rfl TT.tyA_3 rfl (LdC.one) g3) ?_
    refine xg 67 (pB (decide ((idx x_6 (0 : Int)) = (5 : Int)))) rfl rfl (fun hg => sf_eq (a := (idx x_6 (0 : Int))) (b := (5 : Int)) rfl rfl rfl g3) ?_
    refine xs 68 rfl (sf_pickA rfl rfl rfl rfl (fun hb => by rw [hb]; rfl) (fun _ => rfl) ?_)
    refine xm 69 (pB ((v2 && (decide ((x_6.length : Int) = (2 : Int)))) && (decide ((idx x_6 (0 : Int)) = (5 : Int))))) ?_
    refine xg 70 (.d (.slice (x_6.map eI))) rfl rfl (fun hg => sf_move (v := .d (.slice (x_6.map eI))) rfl rfl g3) ?_
    obtain ⟨c_17, h⟩ := gG h
    refine xg 71 (.d (.cptr ([.val (.int .i64 (idx x_6 (1 : Int)))]))) rfl rfl (fun hg => sf_idxA (l := x_6) (i := (1 : Int)) rfl TT.slcA_81 lay_I rfl rfl (c_17 hg) g3) ?_
    refine xg 72 (pI (idx x_6 (1 : Int))) rfl rfl (fun hg => sf_ldC (d := .val (.int .i64 (idx x_6 (1 : Int)))) rfl TT.tyA_3 rfl (LdC.one) g3) ?_
    refine xg 73 (pB (decide ((idx x_6 (1 : Int)) = (4 : Int)))) rfl rfl (fun hg => sf_eq (a := (idx x_6 (1 : Int))) (b := (4 : Int)) rfl rfl rfl g3) ?_
    refine xs 74 rfl (sf_pickA rfl rfl rfl rfl (fun hb => by rw [hb]; rfl) (fun _ => rfl) ?_)
    refine xm 75 (pB (((v2 && (decide ((x_6.length : Int) = (2 : Int)))) && (decide ((idx x_6 (0 : Int)) = (5 : Int)))) && (decide ((idx x_6 (1 : Int)) = (4 : Int))))) ?_
    refine xg 76 (pB (x_8.2)) rfl rfl (fun hg => sf_move (v := pB (x_8.2)) rfl rfl g3) ?_
    refine xs 77 rfl (sf_pickA rfl rfl rfl rfl (fun hb => by rw [hb]; rfl) (fun _ => rfl) ?_)
    refine xm 78 (pB ((((v2 && (decide ((x_6.length : Int) = (2 : Int)))) && (decide ((idx x_6 (0 : Int)) = (5 : Int)))) && (decide ((idx x_6 (1 : Int)) = (4 : Int)))) && x_8.2)) ?_
    refine xg 79 (.vptr 1 0) rfl rfl (fun hg => sf_fldV rfl TT.fldA_37_0 (by decide) rfl g3) ?_
    refine XK.gd (v := .d (.agg (((x_8.1).fSum).1.map byteD))) (T := [1]) (some 80) rfl rfl (by repeat (first | exact trivial | refine ⟨fun q => by first | rfl | exact q | exact cda q | exact cdb q, ?_⟩)) (fun hg => sf_ldV rfl TT.tyA_35 rfl rfl (ldv_ldcA (ldc_Row_0 _) (by rw [lay_Row.len]; decide) (by decide)) ⟨⟨rfl, rfl, rfl⟩, rfl, imp_arr⟩) (fun _ i hi => by simp only [List.mem_singleton] at hi; subst hi; decide) ?_
    refine xg 81 (.d (.agg ((⟨[(7 : UInt8), (0 : UInt8), (0 : UInt8), (0 : UInt8), (0 : UInt8), (0 : UInt8), (0 : UInt8), (0 : UInt8), (0 : UInt8), (0 : UInt8), (0 : UInt8), (0 : UInt8), (0 : UInt8), (0 : UInt8), (0 : UInt8), (0 : UInt8), (0 : UInt8), (0 : UInt8), (0 : UInt8), (0 : UInt8), (0 : UInt8), (0 : UInt8), (0 : UInt8), (0 : UInt8), (0 : UInt8), (0 : UInt8), (0 : UInt8), (0 : UInt8), (0 : UInt8), (0 : UInt8), (0 : UInt8), (0 : UInt8)], rfl⟩ : (Arr 32 UInt8)).1.map byteD))) rfl rfl (fun hg => sf_build (v := .agg [.d (.val (.int .u8 ((7 : UInt8).toNat : Int))), .d (.val (.int .u8 ((0 : UInt8).toNat : Int))), .d (.val (.int .u8 ((0 : UInt8).toNat : Int))), .d (.val (.int .u8 ((0 : UInt8).toNat : Int))), .d (.val (.int .u8 ((0 : UInt8).toNat : Int))), .d (.val (.int .u8 ((0 : UInt8).toNat : Int))), .d (.val (.int .u8 ((0 : UInt8).toNat : Int))), .d (.val (.int .u8 ((0 : UInt8).toNat : Int))), .d (.val (.int .u8 ((0 : UInt8).toNat : Int))), .d (.val (.int .u8 ((0 : UInt8).toNat : Int))), .d (.val (.int .u8 ((0 : UInt8).toNat : Int))), .d (.val (.int .u8 ((0 : UInt8).toNat : Int))), .d (.val (.int .u8 ((0 : UInt8).toNat : Int))), .d (.val (.int .u8 ((0 : UInt8).toNat : Int))), .d (.val (.int .u8 ((0 : UInt8).toNat : Int))), .d (.val (.int .u8 ((0 : UInt8).toNat : Int))), .d (.val (.int .u8 ((0 : UInt8).toNat : Int))), .d (.val (.int .u8 ((0 : UInt8).toNat : Int))), .d (.val (.int .u8 ((0 : UInt8).toNat : Int))), .d (.val (.int .u8 ((0 : UInt8).toNat : Int))), .d (.val (.int .u8 ((0 : UInt8).toNat : Int))), .d (.val (.int .u8 ((0 : UInt8).toNat : Int))), .d (.val (.int .u8 ((0 : UInt8).toNat : Int))), .d (.val (.int .u8 ((0 : UInt8).toNat : Int))), .d (.val (.int .u8 ((0 : UInt8).toNat : Int))), .d (.val (.int .u8 ((0 : UInt8).toNat : Int))), .d (.val (.int .u8 ((0 : UInt8).toNat : Int))), .d (.val (.int .u8 ((0 : UInt8).toNat : Int))), .d (.val (.int .u8 ((0 : UInt8).toNat : Int))), .d (.val (.int .u8 ((0 : UInt8).toNat : Int))), .d (.val (.int .u8 ((0 : UInt8).toNat : Int))), .d (.val (.int .u8 ((0 : UInt8).toNat : Int)))]) rfl (by rw [TT.bldA_35]; simp [buildP, fillP, placeOf, partsQ, evP, PV.solid, PV.cellsP, Value.oneCell', spl, cellV, ofVal, List.all, putS_at, tab, unS, unT, asCond, unC]) (by rw [TT.bldA_35]; rfl) ⟨⟨rfl, rfl, rfl⟩, rfl, (Imp.toD rfl)⟩) ?_
    refine xg 82 (pB (((x_8.1).fSum).1 == (⟨[(7 : UInt8), (0 : UInt8), (0 : UInt8), (0 : UInt8), (0 : UInt8), (0 : UInt8), (0 : UInt8), (0 : UInt8), (0 : UInt8), (0 : UInt8), (0 : UInt8), (0 : UInt8), (0 : UInt8), (0 : UInt8), (0 : UInt8), (0 : UInt8), (0 : UInt8), (0 : UInt8), (0 : UInt8), (0 : UInt8), (0 : UInt8), (0 : UInt8), (0 : UInt8), (0 : UInt8), (0 : UInt8), (0 : UInt8), (0 : UInt8), (0 : UInt8), (0 : UInt8), (0 : UInt8), (0 : UInt8), (0 : UInt8)], rfl⟩ : (Arr 32 UInt8)).1)) rfl rfl (fun hg => sf_arreq (p := (x_8.1).fSum) (q := (⟨[(7 : UInt8), (0 : UInt8), (0 : UInt8), (0 : UInt8), (0 : UInt8), (0 : UInt8), (0 : UInt8), (0 : UInt8), (0 : UInt8), (0 : UInt8), (0 : UInt8), (0 : UInt8), (0 : UInt8), (0 : UInt8), (0 : UInt8), (0 : UInt8), (0 : UInt8), (0 : UInt8), (0 : UInt8), (0 : UInt8), (0 : UInt8), (0 : UInt8), (0 : UInt8), (0 : UInt8), (0 : UInt8), (0 : UInt8), (0 : UInt8), (0 : UInt8), (0 : UInt8), (0 : UInt8), (0 : UInt8), (0 : UInt8)], rfl⟩ : (Arr 32 UInt8))) rfl TT.arrB_35_32 rfl rfl g3) ?_
    refine xs 83 rfl (sf_pickA rfl rfl rfl rfl (fun hb => by rw [hb]; rfl) (fun _ => rfl) ?_)
    refine xm 84 (pB (((((v2 && (decide ((x_6.length : Int) = (2 : Int)))) && (decide ((idx x_6 (0 : Int)) = (5 : Int)))) && (decide ((idx x_6 (1 : Int)) = (4 : Int)))) && x_8.2) && (((x_8.1).fSum).1 == (⟨[(7 : UInt8), (0 : UInt8), (0 : UInt8), (0 : UInt8), (0 : UInt8), (0 : UInt8), (0 : UInt8), (0 : UInt8), (0 : UInt8), (0 : UInt8), (0 : UInt8), (0 : UInt8), (0 : UInt8), (0 : UInt8), (0 : UInt8), (0 : UInt8), (0 : UInt8), (0 : UInt8), (0 : UInt8), (0 : UInt8), (0 : UInt8), (0 : UInt8), (0 : UInt8), (0 : UInt8), (0 : UInt8), (0 : UInt8), (0 : UInt8), (0 : UInt8), (0 : UInt8), (0 : UInt8), (0 : UInt8), (0 : UInt8)], rfl⟩ : (Arr 32 UInt8)).1))) ?_
    refine xg 85 (pI (x_10.2)) rfl rfl (fun hg => sf_move (v := pI (x_10.2)) rfl rfl g3) ?_
    refine xg 86 (pB (decide ((x_10.2) = (0 : Int)))) rfl rfl (fun hg => sf_eq (a := (x_10.2)) (b := (0 : Int)) rfl rfl rfl g3) ?_
    refine xs 87 rfl (sf_pickA rfl rfl rfl rfl (fun hb => by rw [hb]; rfl) (fun _ => rfl) ?_)
    refine xm 88 (pB ((((((v2 && (decide ((x_6.length : Int) = (2 : Int)))) && (decide ((idx x_6 (0 : Int)) = (5 : Int)))) && (decide ((idx x_6 (1 : Int)) = (4 : Int)))) && x_8.2) && (((x_8.1).fSum).1 == (⟨[(7 : UInt8), (0 : UInt8), (0 : UInt8), (0 : UInt8), (0 : UInt8), (0 : UInt8), (0 : UInt8), (0 : UInt8), (0 : UInt8), (0 : UInt8), (0 : UInt8), (0 : UInt8), (0 : UInt8), (0 : UInt8), (0 : UInt8), (0 : UInt8), (0 : UInt8), (0 : UInt8), (0 : UInt8), (0 : UInt8), (0 : UInt8), (0 : UInt8), (0 : UInt8), (0 : UInt8), (0 : UInt8), (0 : UInt8), (0 : UInt8), (0 : UInt8), (0 : UInt8), (0 : UInt8), (0 : UInt8), (0 : UInt8)], rfl⟩ : (Arr 32 UInt8)).1)) && (decide ((x_10.2) = (0 : Int))))) ?_
    refine xg 89 (pI (x_12.2)) rfl rfl (fun hg => sf_move (v := pI (x_12.2)) rfl rfl g3) ?_
    refine xg 90 (pB (decide ((x_12.2) = (0 : Int)))) rfl rfl (fun hg => sf_eq (a := (x_12.2)) (b := (0 : Int)) rfl rfl rfl g3) ?_
    refine xs 91 rfl (sf_pickA rfl rfl rfl rfl (fun hb => by rw [hb]; rfl) (fun _ => rfl) ?_)
    refine xm 92 (pB (((((((v2 && (decide ((x_6.length : Int) = (2 : Int)))) && (decide ((idx x_6 (0 : Int)) = (5 : Int)))) && (decide ((idx x_6 (1 : Int)) = (4 : Int)))) && x_8.2) && (((x_8.1).fSum).1 == (⟨[(7 : UInt8), (0 : UInt8), (0 : UInt8), (0 : UInt8), (0 : UInt8), (0 : UInt8), (0 : UInt8), (0 : UInt8), (0 : UInt8), (0 : UInt8), (0 : UInt8), (0 : UInt8), (0 : UInt8), (0 : UInt8), (0 : UInt8), (0 : UInt8), (0 : UInt8), (0 : UInt8), (0 : UInt8), (0 : UInt8), (0 : UInt8), (0 : UInt8), (0 : UInt8), (0 : UInt8), (0 : UInt8), (0 : UInt8), (0 : UInt8), (0 : UInt8), (0 : UInt8), (0 : UInt8), (0 : UInt8), (0 : UInt8)], rfl⟩ : (Arr 32 UInt8)).1)) && (decide ((x_10.2) = (0 : Int)))) && (decide ((x_12.2) = (0 : Int))))) ?_
    refine XK.gd (v := .d (.agg (cIndex (x_12.1)))) (T := [2]) (some 93) rfl rfl (by repeat (first | exact trivial | refine ⟨fun q => by first | rfl | exact q | exact cda q | exact cdb q, ?_⟩)) (fun hg => sf_ldV (v := .agg [.d (.slice (((x_12.1).fpages).map (eL eRow)))]) rfl TT.tyA_71 rfl rfl ⟨⟨by simp, by simp⟩, rfl⟩ ⟨⟨rfl, rfl, rfl⟩, rfl, (Imp.toD rfl)⟩) (fun _ i hi => by simp only [List.mem_singleton] at hi; subst hi; decide) ?_
    obtain ⟨x_18, hx_19, h⟩ := bG h
    refine xg 94 (.d (.slice (x_18.map eRow))) rfl rfl (fun hg => sf_call rfl rfl TT.enters_56 rfl (sim_pindex_Index_All (x_12.1) _ (bT hx_19 hg)) g3) ?_
    refine xg 95 (pI (x_18.length : Int)) rfl rfl (fun hg => sf_lenL (en := eRow) (l := x_18) rfl TT.under_22 rfl g3) ?_
    refine xg 96 (pB (decide ((x_18.length : Int) = (9 : Int)))) rfl rfl (fun hg => sf_eq (a := (x_18.length : Int)) (b := (9 : Int)) rfl rfl rfl g3) ?_
    refine xs 97 rfl (sf_pickA rfl rfl rfl rfl (fun hb => by rw [hb]; rfl) (fun _ => rfl) ?_)
    refine xm 98 (pB ((((((((v2 && (decide ((x_6.length : Int) = (2 : Int)))) && (decide ((idx x_6 (0 : Int)) = (5 : Int)))) && (decide ((idx x_6 (1 : Int)) = (4 : Int)))) && x_8.2) && (((x_8.1).fSum).1 == (⟨[(7 : UInt8), (0 : UInt8), (0 : UInt8), (0 : UInt8), (0 : UInt8), (0 : UInt8), (0 : UInt8), (0 : UInt8), (0 : UInt8), (0 : UInt8), (0 : UInt8), (0 : UInt8), (0 : UInt8), (0 : UInt8), (0 : UInt8), (0 : UInt8), (0 : UInt8), (0 : UInt8), (0 : UInt8), (0 : UInt8), (0 : UInt8), (0 : UInt8), (0 : UInt8), (0 : UInt8), (0 : UInt8), (0 : UInt8), (0 : UInt8), (0 : UInt8), (0 : UInt8), (0 : UInt8), (0 : UInt8), (0 : UInt8)], rfl⟩ : (Arr 32 UInt8)).1)) && (decide ((x_10.2) = (0 : Int)))) && (decide ((x_12.2) = (0 : Int)))) && (decide ((x_18.length : Int) = (9 : Int))))) ?_
    refine xg 99 (pB (x_14.2)) rfl rfl (fun hg => sf_move (v := pB (x_14.2)) rfl rfl g3) ?_
    refine xs 100 rfl (sf_pickA rfl rfl rfl rfl (fun hb => by rw [hb]; rfl) (fun _ => rfl) ?_)
    refine xm 101 (pB (((((((((v2 && (decide ((x_6.length : Int) = (2 : Int)))) && (decide ((idx x_6 (0 : Int)) = (5 : Int)))) && (decide ((idx x_6 (1 : Int)) = (4 : Int)))) && x_8.2) && (((x_8.1).fSum).1 == (⟨[(7 : UInt8), (0 : UInt8), (0 : UInt8), (0 : UInt8), (0 : UInt8), (0 : UInt8), (0 : UInt8), (0 : UInt8), (0 : UInt8), (0 : UInt8), (0 : UInt8), (0 : UInt8), (0 : UInt8), (0 : UInt8), (0 : UInt8), (0 : UInt8), (0 : UInt8), (0 : UInt8), (0 : UInt8), (0 : UInt8), (0 : UInt8), (0 : UInt8), (0 : UInt8), (0 : UInt8), (0 : UInt8), (0 : UInt8), (0 : UInt8), (0 : UInt8), (0 : UInt8), (0 : UInt8), (0 : UInt8), (0 : UInt8)], rfl⟩ : (Arr 32 UInt8)).1)) && (decide ((x_10.2) = (0 : Int)))) && (decide ((x_12.2) = (0 : Int)))) && (decide ((x_18.length : Int) = (9 : Int)))) && x_14.2)) ?_
    refine XK.gd (v := .d (.agg (cIndex (x_14.1)))) (T := [3]) (some 102) rfl rfl (by repeat (first | exact trivial | refine ⟨fun q => by first | rfl | exact q | exact cda q | exact cdb q, ?_⟩)) (fun hg => sf_ldV (v := .agg [.d (.slice (((x_14.1).fpages).map (eL eRow)))]) rfl TT.tyA_71 rfl rfl ⟨⟨by simp, by simp⟩, rfl⟩ ⟨⟨rfl, rfl, rfl⟩, rfl, (Imp.toD rfl)⟩) (fun _ i hi => by simp only [List.mem_singleton] at hi; subst hi; decide) ?_
    obtain ⟨x_20, hx_21, h⟩ := bG h
    refine xg 103 (.d (.slice (x_20.map eI))) rfl rfl (fun hg => sf_call rfl rfl TT.enters_55 rfl (sim_pindex_Index_Pages (x_14.1) _ (bT hx_21 hg)) g3) ?_
    refine xg 104 (pI (x_20.length : Int)) rfl rfl (fun hg => sf_lenL (en := eI) (l := x_20) rfl TT.under_81 rfl g3) ?_
    refine xg 105 (pB (decide ((x_20.length : Int) = (1 : Int)))) rfl rfl (fun hg => sf_eq (a := (x_20.length : Int)) (b := (1 : Int)) rfl rfl rfl g3) ?_
    refine xs 106 rfl (sf_pickA rfl rfl rfl rfl (fun hb => by rw [hb]; rfl) (fun _ => rfl) ?_)
    refine xm 107 (pB ((((((((((v2 && (decide ((x_6.length : Int) = (2 : Int)))) && (decide ((idx x_6 (0 : Int)) = (5 : Int)))) && (decide ((idx x_6 (1 : Int)) = (4 : Int)))) && x_8.2) && (((x_8.1).fSum).1 == (⟨[(7 : UInt8), (0 : UInt8), (0 : UInt8), (0 : UInt8), (0 : UInt8), (0 : UInt8), (0 : UInt8), (0 : UInt8), (0 : UInt8), (0 : UInt8), (0 : UInt8), (0 : UInt8), (0 : UInt8), (0 : UInt8), (0 : UInt8), (0 : UInt8), (0 : UInt8), (0 : UInt8), (0 : UInt8), (0 : UInt8), (0 : UInt8), (0 : UInt8), (0 : UInt8), (0 : UInt8), (0 : UInt8), (0 : UInt8), (0 : UInt8), (0 : UInt8), (0 : UInt8), (0 : UInt8), (0 : UInt8), (0 : UInt8)], rfl⟩ : (Arr 32 UInt8)).1)) && (decide ((x_10.2) = (0 : Int)))) && (decide ((x_12.2) = (0 : Int)))) && (decide ((x_18.length : Int) = (9 : Int)))) && x_14.2) && (decide ((x_20.length : Int) = (1 : Int))))) ?_
    refine XK.gd (v := .d (.agg (cIndex (⟨v1_0⟩ : Index)))) (T := [0]) (some 108) rfl rfl (by repeat (first | exact trivial | refine ⟨fun q => by first | rfl | exact q | exact cda q | exact cdb q, ?_⟩)) (fun hg => sf_ldV (v := .agg [.d (.slice (v1_0.map (eL eRow)))]) rfl TT.tyA_71 rfl rfl ⟨⟨by simp, by simp⟩, rfl⟩ ⟨⟨rfl, rfl, rfl⟩, rfl, (Imp.toD rfl)⟩) (fun _ i hi => by simp only [List.mem_singleton] at hi; subst hi; decide) ?_
    refine xg 109 (.d (.agg ((⟨[(3 : UInt8), (0 : UInt8), (0 : UInt8), (0 : UInt8), (0 : UInt8), (0 : UInt8), (0 : UInt8), (0 : UInt8), (0 : UInt8), (0 : UInt8), (0 : UInt8), (0 : UInt8), (0 : UInt8), (0 : UInt8), (0 : UInt8), (0 : UInt8), (0 : UInt8), (0 : UInt8), (0 : UInt8), (0 : UInt8), (0 : UInt8), (0 : UInt8), (0 : UInt8), (0 : UInt8), (0 : UInt8), (0 : UInt8), (0 : UInt8), (0 : UInt8), (0 : UInt8), (0 : UInt8), (0 : UInt8), (0 : UInt8)], rfl⟩ : (Arr 32 UInt8)).1.map byteD))) rfl rfl (fun hg => sf_build (v := .agg [.d (.val (.int .u8 ((3 : UInt8).toNat : Int))), .d (.val (.int .u8 ((0 : UInt8).toNat : Int))), .d (.val (.int .u8 ((0 : UInt8).toNat : Int))), .d (.val (.int .u8 ((0 : UInt8).toNat : Int))), .d (.val (.int .u8 ((0 : UInt8).toNat : Int))), .d (.val (.int .u8 ((0 : UInt8).toNat : Int))), .d (.val (.int .u8 ((0 : UInt8).toNat : Int))), .d (.val (.int .u8 ((0 : UInt8).toNat : Int))), .d (.val (.int .u8 ((0 : UInt8).toNat : Int))), .d (.val (.int .u8 ((0 : UInt8).toNat : Int))), .d (.val (.int .u8 ((0 : UInt8).toNat : Int))), .d (.val (.int .u8 ((0 : UInt8).toNat : Int))), .d (.val (.int .u8 ((0 : UInt8).toNat : Int))), .d (.val (.int .u8 ((0 : UInt8).toNat : Int))), .d (.val (.int .u8 ((0 : UInt8).toNat : Int))), .d (.val (.int .u8 ((0 : UInt8).toNat : Int))), .d (.val (.int .u8 ((0 : UInt8).toNat : Int))), .d (.val (.int .u8 ((0 : UInt8).toNat : Int))), .d (.val (.int .u8 ((0 : UInt8).toNat : Int))), .d (.val (.int .u8 ((0 : UInt8).toNat : Int))), .d (.val (.int .u8 ((0 : UInt8).toNat : Int))), .d (.val (.int .u8 ((0 : UInt8).toNat : Int))), .d (.val (.int .u8 ((0 : UInt8).toNat : Int))), .d (.val (.int .u8 ((0 : UInt8).toNat : Int))), .d (.val (.int .u8 ((0 : UInt8).toNat : Int))), .d (.val (.int .u8 ((0 : UInt8).toNat : Int))), .d (.val (.int .u8 ((0 : UInt8).toNat : Int))), .d (.val (.int .u8 ((0 : UInt8).toNat : Int))), .d (.val (.int .u8 ((0 : UInt8).toNat : Int))), .d (.val (.int .u8 ((0 : UInt8).toNat : Int))), .d (.val (.int .u8 ((0 : UInt8).toNat : Int))), .d (.val (.int .u8 ((0 : UInt8).toNat : Int)))]) rfl (by rw [TT.bldA_35]; simp [buildP, fillP, placeOf, partsQ, evP, PV.solid, PV.cellsP, Value.oneCell', spl, cellV, ofVal, List.all, putS_at, tab, unS, unT, asCond, unC]) (by rw [TT.bldA_35]; rfl) ⟨⟨rfl, rfl, rfl⟩, rfl, (Imp.toD rfl)⟩) ?_
    obtain ⟨x_22, hx_23, h⟩ := bG h
    refine xg 110 (.d (.slice (x_22.map eRow))) rfl rfl (fun hg => sf_call rfl rfl TT.enters_62 rfl (sim_pindex_Index_Of (⟨v1_0⟩ : Index) (⟨[(3 : UInt8), (0 : UInt8), (0 : UInt8), (0 : UInt8), (0 : UInt8), (0 : UInt8), (0 : UInt8), (0 : UInt8), (0 : UInt8), (0 : UInt8), (0 : UInt8), (0 : UInt8), (0 : UInt8), (0 : UInt8), (0 : UInt8), (0 : UInt8), (0 : UInt8), (0 : UInt8), (0 : UInt8), (0 : UInt8), (0 : UInt8), (0 : UInt8), (0 : UInt8), (0 : UInt8), (0 : UInt8), (0 : UInt8), (0 : UInt8), (0 : UInt8), (0 : UInt8), (0 : UInt8), (0 : UInt8), (0 : UInt8)], rfl⟩ : (Arr 32 UInt8)) _ (bT hx_23 hg)) g3) ?_
    refine xg 111 (pI (x_22.length : Int)) rfl rfl (fun hg => sf_lenL (en := eRow) (l := x_22) rfl TT.under_22 rfl g3) ?_
    refine xg 112 (pB (decide ((x_22.length : Int) = (1 : Int)))) rfl rfl (fun hg => sf_eq (a := (x_22.length : Int)) (b := (1 : Int)) rfl rfl rfl g3) ?_
    refine xs 113 rfl (sf_pickA rfl rfl rfl rfl (fun hb => by rw [hb]; rfl) (fun _ => rfl) ?_)
    refine xz 0 (pB (((((((((((v2 && (decide ((x_6.length : Int) = (2 : Int)))) && (decide ((idx x_6 (0 : Int)) = (5 : Int)))) && (decide ((idx x_6 (1 : Int)) = (4 : Int)))) && x_8.2) && (((x_8.1).fSum).1 == (⟨[(7 : UInt8), (0 : UInt8), (0 : UInt8), (0 : UInt8), (0 : UInt8), (0 : UInt8), (0 : UInt8), (0 : UInt8), (0 : UInt8), (0 : UInt8), (0 : UInt8), (0 : UInt8), (0 : UInt8), (0 : UInt8), (0 : UInt8), (0 : UInt8), (0 : UInt8), (0 : UInt8), (0 : UInt8), (0 : UInt8), (0 : UInt8), (0 : UInt8), (0 : UInt8), (0 : UInt8), (0 : UInt8), (0 : UInt8), (0 : UInt8), (0 : UInt8), (0 : UInt8), (0 : UInt8), (0 : UInt8), (0 : UInt8)], rfl⟩ : (Arr 32 UInt8)).1)) && (decide ((x_10.2) = (0 : Int)))) && (decide ((x_12.2) = (0 : Int)))) && (decide ((x_18.length : Int) = (9 : Int)))) && x_14.2) && (decide ((x_20.length : Int) = (1 : Int)))) && (decide ((x_22.length : Int) = (1 : Int))))) ?_
    refine QW.ret zL ?_
    obtain rfl := sG h
    exact Ends.one (.inr rfl) rfl (ResIs.tmp rfl) rfl rfl
inductive C_law48_PindexDoes where
  | S
  | L1 (v6_9 : (List (List Row))) (v7 : Int) (v5_0_9 : (List (List Row)))
  | J2 (v6_23 : (List (List Row))) (v7_15 : Int) (v5_0_23 : (List (List Row)))
  | L3 (v6_25 : (List (List Row))) (v7_17 : Int) (v15_17 : (List Int)) (v16_11 : Int) (v5_0_25 : (List (List Row)))
noncomputable def step_law48_PindexDoes (l0 : (List Act)) (ask1 : Row) : C_law48_PindexDoes → Option (C_law48_PindexDoes ⊕ Bool)
  | .S =>
    some (.inl (.L1 ([] : (List (List Row))) (0) ([] : (List (List Row)))))
  | .L1 v6_9 v7 v5_0_9 =>
    (bif ((decide (v7 < (l0.length : Int))) && (decide (v7 < (60 : Int)))) then
    gO (0 ≤ v7 ∧ v7 < (l0.length : Int)) (
    (bif (decide ((300 : Int) < ((((idx l0 v7).fRow).fBody).length : Int))) then
    ((g_law48_awake ).bind fun (x_5 : Bool) =>
    some (.inr x_5))
    else
    ((g_ref48_All v6_9).bind fun (x_7 : (List Row)) =>
    ((g_ref47_Find x_7 (((idx l0 v7).fRow).fSum) (((idx l0 v7).fRow).fEpoch)).bind fun (x_9 : Int) =>
    (bif (decide (((idx l0 v7).fKind) = (3 : Int))) then
    ((g_pindex_Index_Drop (⟨v5_0_9⟩ : Index) (((idx l0 v7).fRow).fSum) (((idx l0 v7).fRow).fEpoch)).bind fun (x_12 : (Index × Bool)) =>
    (bif (!(x_12.2 == (decide ((0 : Int) ≤ x_9)))) then
    some (.inr false)
    else
    (bif (decide ((0 : Int) ≤ x_9)) then
    ((g_ref48_Drop v6_9 (((idx l0 v7).fRow).fSum) (((idx l0 v7).fRow).fEpoch)).bind fun (x_16 : (List (List Row))) =>
    some (.inl (.J2 x_16 v7 ((x_12.1).fpages))))
    else
    some (.inl (.J2 v6_9 v7 ((x_12.1).fpages))))))
    else
    ((g_pindex_Index_Put (⟨v5_0_9⟩ : Index) ((idx l0 v7).fRow)).bind fun (x_18 : (Index × Bool)) =>
    ((bif ((!(decide ((0 : Int) ≤ x_9))) == true) then g_ref47_May ([(idx l0 v7).fRow] : List Row) else some default).bind fun (x_20 : Bool) =>
    (bif (!(x_18.2 == ((!(decide ((0 : Int) ≤ x_9))) && x_20))) then
    some (.inr false)
    else
    (bif ((!(decide ((0 : Int) ≤ x_9))) && x_20) then
    ((g_ref48_Put v6_9 ((idx l0 v7).fRow)).bind fun (x_24 : (List (List Row))) =>
    some (.inl (.J2 x_24 v7 ((x_18.1).fpages))))
    else
    some (.inl (.J2 v6_9 v7 ((x_18.1).fpages))))))))))))
    else
    ((g_pindex_Index_Get (⟨v5_0_9⟩ : Index) (ask1.fSum) (ask1.fEpoch)).bind fun (x_49 : (Row × Bool)) =>
    ((g_ref48_All v6_9).bind fun (x_51 : (List Row)) =>
    ((g_ref47_Find x_51 (ask1.fSum) (ask1.fEpoch)).bind fun (x_53 : Int) =>
    ((g_law48_awake ).bind fun (x_55 : Bool) =>
    ((bif (((x_55 && (x_49.2 == (decide ((0 : Int) ≤ x_53)))) == true) && ((!(x_49).2) == false)) then g_ref48_All v6_9 else some default).bind fun (x_57 : (List Row)) =>
    gO ((((x_55 && (x_49.2 == (decide ((0 : Int) ≤ x_53)))) == true) && ((!(x_49).2) == false)) = true → 0 ≤ x_53 ∧ x_53 < (x_57.length : Int)) (
    some (.inr (((x_55 && (x_49.2 == (decide ((0 : Int) ≤ x_53)))) && ((!(x_49).2) || (beqRow (x_49.1) (idx x_57 x_53)))) && (x_49.2 || (beqRow (x_49.1) (⟨(Arr.rep 32 (0 : UInt8)), 0, ([] : List UInt8)⟩ : Row))))))))))))
  | .J2 v6_23 v7_15 v5_0_23 =>
    ((g_pindex_Index_Pages (⟨v5_0_23⟩ : Index)).bind fun (x_27 : (List Int)) =>
    ((g_pindex_Index_All (⟨v5_0_23⟩ : Index)).bind fun (x_29 : (List Row)) =>
    ((g_ref48_All v6_23).bind fun (x_31 : (List Row)) =>
    ((g_ref47_Same x_29 x_31).bind fun (x_33 : Bool) =>
    ((bif ((!x_33) == false) then g_pindex_Index_All (⟨v5_0_23⟩ : Index) else some default).bind fun (x_35 : (List Row)) =>
    ((bif ((!x_33) == false) then g_ref47_Rises x_35 else some default).bind fun (x_37 : Bool) =>
    (bif (((!x_33) || (!x_37)) || (!decide ((x_27.length : Int) = (v6_23.length : Int)))) then
    some (.inr false)
    else
    some (.inl (.L3 v6_23 v7_15 x_27 (0) v5_0_23)))))))))
  | .L3 v6_25 v7_17 v15_17 v16_11 v5_0_25 =>
    (bif (decide (v16_11 < (v15_17.length : Int))) then
    gO (0 ≤ v16_11 ∧ v16_11 < (v15_17.length : Int)) (
    gO (0 ≤ v16_11 ∧ v16_11 < (v6_25.length : Int)) (
    gO ((!decide ((idx v15_17 v16_11) = ((idx v6_25 v16_11).length : Int))) = false → 0 ≤ v16_11 ∧ v16_11 < (v15_17.length : Int)) (
    gO (((!decide ((idx v15_17 v16_11) = ((idx v6_25 v16_11).length : Int))) || (decide ((idx v15_17 v16_11) < (1 : Int)))) = false → 0 ≤ v16_11 ∧ v16_11 < (v15_17.length : Int)) (
    (bif (((!decide ((idx v15_17 v16_11) = ((idx v6_25 v16_11).length : Int))) || (decide ((idx v15_17 v16_11) < (1 : Int)))) || (decide ((8 : Int) < (idx v15_17 v16_11)))) then
    some (.inr false)
    else
    gO (inI (v16_11 + (1 : Int))) (
    some (.inl (.L3 v6_25 v7_17 v15_17 (v16_11 + (1 : Int)) v5_0_25))))))))
    else
    gO (inI (v7_17 + (1 : Int))) (
    some (.inl (.L1 v6_25 (v7_17 + (1 : Int)) v5_0_25))))
noncomputable def g_law48_PindexDoes (l0 : (List Act)) (ask1 : Row) : Option Bool := theC (step_law48_PindexDoes l0 ask1) .S
theorem sim_law48_PindexDoes (l0 : (List Act)) (ask1 : Row) (r : Bool) (h : g_law48_PindexDoes l0 ask1 = some r) : Fun Try.prog 9 [.slice (l0.map eAct), .agg (cRow ask1)] (.val (.bool r)) := by
  refine Fun.of_bodyQ Try.func9 rfl (by simp [Try.ntmps9]) ?_
  rw [Try.ntmps9, TT.res_9]
  refine QW.view (s' := ⟨tab [(0, .d (.slice (l0.map eAct))), (1, .d (.agg (cRow ask1)))], tabH [], 0, []⟩) (View.init (by rfl)) zL ?_
  replace h := theC_get h
  obtain ⟨_, h⟩ := h
  obtain ⟨k_0, rfl, h9⟩ := run_succ h; replace h := h9; clear h9; rw [step_law48_PindexDoes] at h
  refine sR ?_
  refine XK.fz (some 3) rfl rfl (sf_boxF (ds := cRow ask1) rfl rfl rfl rfl toDs_map ?_)
  refine xz 4 (pB false) ?_
  refine sR ?_
  refine xs 5 rfl (sf_alloc (l := [.full (([] : (List (List Row))).map (eL eRow))]) rfl TT.zeroA_71 rfl rfl ?_)
  refine XK.nz ?_
  refine sR ?_
  refine xz 6 (.full (([] : (List (List Row))).map (eL eRow))) ?_
  refine QW.seq ?_
  refine sR ?_
  refine xz 7 (pI (0)) ?_
  refine QW.block ?_
  refine QW.loop (fun k σ => ∃ v6_9 : (List (List Row)), ∃ v7 : Int, ∃ v5_0_9 : (List (List Row)), k ≤ k_0 ∧ run (step_law48_PindexDoes l0 ask1) k (.L1 v6_9 v7 v5_0_9) = some r ∧ σ = ⟨tab [(0, .d (.slice (l0.map eAct))), (3, .d (.cptr (cRow ask1))), (5, .vptr 0 0), (6, .d (.slice (v6_9.map (eL eRow)))), (7, pI v7)], tabH [.var [.d (.slice (v5_0_9.map (eL eRow)))]], 1, []⟩) k_0 zL ⟨⟨tab [(0, .d (.slice (l0.map eAct))), (3, .d (.cptr (cRow ask1))), (5, .vptr 0 0), (6, .d (.slice (([] : (List (List Row))).map (eL eRow)))), (7, pI (0))], tabH [.var [.d (.slice (([] : (List (List Row))).map (eL eRow)))]], 1, []⟩, View.trans (View.castV 0 0 rfl rfl rfl zL) (View.mk 1 [0] _ _ _ rfl rfl (by decide) (iC (iC (iC (And.intro (Imp.toD rfl) (iC trivial))))) (And.intro rfl trivial) rfl zL rfl), ([] : (List (List Row))), 0, ([] : (List (List Row))), Nat.le_refl _, jG h, rfl⟩ ?_
  rintro k_1s _ ⟨v6_9, v7, v5_0_9, k_1h, h, rfl⟩
  obtain ⟨k_1, rfl, h9⟩ := run_succ h; replace h := h9; clear h9; rw [step_law48_PindexDoes] at h
  refine QW.seq ?_
  refine sR ?_
  refine xm 20 (pI v7) ?_
  refine xm 21 (.d (.slice (l0.map eAct))) ?_
  refine xs 22 rfl (sf_lenL (en := eAct) (l := l0) rfl TT.under_68 rfl ?_)
  refine xs 23 rfl (sf_lss (a := v7) (b := (l0.length : Int)) rfl rfl rfl ?_)
  refine xm 24 (pB (decide (v7 < (l0.length : Int)))) ?_
  refine xg 25 (pI v7) rfl rfl (fun hg => sf_move (v := pI v7) rfl rfl g3) ?_
  refine xg 26 (pB (decide (v7 < (60 : Int)))) rfl rfl (fun hg => sf_lss (a := v7) (b := (60 : Int)) rfl rfl rfl g3) ?_
  refine xs 27 rfl (sf_pickA rfl rfl rfl rfl (fun hb => by rw [hb]; rfl) (fun _ => rfl) ?_)
  refine XK.nz ?_
  refine QW.cond (t := ((decide (v7 < (l0.length : Int))) && (decide (v7 < (60 : Int))))) rfl zL (fun hb_2 => ?_) (fun hb_2 => ?_)
  · replace h := bGT h hb_2
    refine QW.skip zL (nrm ?_)
    refine QW.seq ?_
    refine QW.block ?_
    refine sR ?_
    refine xm 30 (.d (.slice (l0.map eAct))) ?_
    refine xm 31 (pI v7) ?_
    obtain ⟨c_3, h⟩ := gG h
    refine xs 32 rfl (sf_idxA (l := l0) (i := v7) rfl TT.slcA_68 lay_Act rfl rfl c_3 ?_)
    refine xs 33 rfl (sf_ldC (d := .agg (cAct (idx l0 v7))) rfl TT.tyA_74 rfl (⟨by rw [lay_Act.len]; decide, congrArg D.agg (List.take_of_length_le (by rw [lay_Act.len]; decide))⟩) ?_)
    refine xs 8 rfl (sf_alloc (l := ((cAct (⟨(0 : Int), (⟨(Arr.rep 32 (0 : UInt8)), (0 : Int), ([] : (List UInt8))⟩ : Row)⟩ : Act)).map .d)) rfl TT.zeroA_74 rfl rfl ?_)
    refine XK.st none rfl rfl (sf_stV (l' := ((cAct (idx l0 v7)).map .d)) rfl TT.tyA_74 rfl rfl rfl rfl rfl (len_dd (lay_Act.len _)) (le_dd (lay_Act.len _)) (spl_dd ((lay_Act.len _).trans (lay_Act.len _).symm)) ?_)
    refine XK.nz ?_
    refine QW.seq ?_
    refine sR ?_
    refine xs 34 rfl (sf_fldV rfl TT.fldA_74_1 (by decide) rfl ?_)
    refine xs 35 rfl (sf_fldV rfl TT.fldA_37_2 (by decide) rfl ?_)
    refine xs 36 rfl (sf_ldV (v := pS ((idx l0 v7).fRow.fBody)) rfl TT.tyA_9 rfl rfl (ldv_ldc (ldc_Act_1_2 _) (by rw [lay_Act.len]; decide) (by decide)) ?_)
    refine xs 37 rfl (sf_lenS (l := ((idx l0 v7).fRow).fBody) rfl TT.under_9 rfl ?_)
    refine xs 38 rfl (sf_gtr (a := ((((idx l0 v7).fRow).fBody).length : Int)) (b := (300 : Int)) rfl rfl rfl ?_)
    refine XK.nz ?_
    refine QW.cond (t := (decide ((300 : Int) < ((((idx l0 v7).fRow).fBody).length : Int)))) rfl zL (fun hb_4 => ?_) (fun hb_4 => ?_)
    · replace h := bGT h hb_4
      refine sR ?_
      obtain ⟨x_5, hx_6, h⟩ := bG h
      refine xs 39 rfl (sf_call rfl rfl TT.enters_49 rfl (sim_law48_awake  _ hx_6) ?_)
      refine xz 4 (pB x_5) ?_
      refine QW.ret zL (thR (blR (thR (thR (blR (thR ?_))))))
      obtain rfl := sG h
      exact Ends.one (.inr rfl) rfl (ResIs.tmp rfl) rfl rfl
    · replace h := bGF h hb_4
      refine QW.skip zL (nrm ?_)
      refine QW.seq ?_
      refine QW.region zL (PW.regQ (id := 9) mixedX (M := _) rfl (by kernel_rfl) ?_)
      refine RQ.st (some 40) rfl rfl (sf_move (v := .d (.slice (v6_9.map (eL eRow)))) rfl rfl ⟨⟨rfl, rfl⟩, ?_⟩)
      obtain ⟨x_7, hx_8, h⟩ := bG h
      refine RQ.st (some 41) rfl rfl (sf_call rfl rfl TT.enters_50 rfl (sim_ref48_All v6_9 _ hx_8) ⟨⟨rfl, rfl⟩, ?_⟩)
      refine RQ.st (some 42) rfl rfl (sf_fldV rfl TT.fldA_74_1 (by decide) rfl ⟨⟨rfl, rfl⟩, ?_⟩)
      refine RQ.st (some 43) rfl rfl (sf_fldV rfl TT.fldA_37_0 (by decide) rfl ⟨⟨rfl, rfl⟩, ?_⟩)
      refine RQ.as (some 44) rfl rfl (sf_ldV rfl TT.tyA_35 rfl rfl (ldv_ldcA (ldc_Act_1_0 _) (by rw [lay_Act.len]; decide) (by decide)) ⟨⟨rfl, rfl⟩, .d (.agg ((((idx l0 v7).fRow).fSum).1.map byteD)), imp_arr, ?_⟩)
      refine RQ.st (some 45) rfl rfl (sf_fldV rfl TT.fldA_74_1 (by decide) rfl ⟨⟨rfl, rfl⟩, ?_⟩)
      refine RQ.st (some 46) rfl rfl (sf_fldV rfl TT.fldA_37_1 (by decide) rfl ⟨⟨rfl, rfl⟩, ?_⟩)
      refine RQ.st (some 47) rfl rfl (sf_ldV (v := pI ((idx l0 v7).fRow.fEpoch)) rfl TT.tyA_3 rfl rfl (ldv_ldc (ldc_Act_1_1 _) (by rw [lay_Act.len]; decide) (by decide)) ⟨⟨rfl, rfl⟩, ?_⟩)
      obtain ⟨x_9, hx_10, h⟩ := bG h
      refine RQ.st (some 48) rfl rfl (sf_call rfl rfl TT.enters_27 rfl (sim_ref47_Find x_7 (((idx l0 v7).fRow).fSum) (((idx l0 v7).fRow).fEpoch) _ hx_10) ⟨⟨rfl, rfl⟩, ?_⟩)
      refine RQ.st (some 49) rfl rfl (sf_geq (a := x_9) (b := (0 : Int)) rfl rfl rfl ⟨⟨rfl, rfl⟩, ?_⟩)
      refine RQ.st (some 9) rfl rfl (sf_assign (v := pB (decide ((0 : Int) ≤ x_9))) rfl rfl ⟨⟨rfl, rfl⟩, ?_⟩)
      refine RQ.nil (nrm ?_)
      refine QW.seqI (fun s' => ∃ v6_23 : (List (List Row)), ∃ v7_15 : Int, ∃ v5_0_23 : (List (List Row)), ∃ k : Nat, k ≤ k_1 ∧ run (step_law48_PindexDoes l0 ask1) k (.J2 v6_23 v7_15 v5_0_23) = some r ∧ s' = ⟨tab [(0, .d (.slice (l0.map eAct))), (3, .d (.cptr (cRow ask1))), (5, .vptr 0 0), (6, .d (.slice (v6_23.map (eL eRow)))), (7, pI v7_15)], tabH [.var [.d (.slice (v5_0_23.map (eL eRow)))]], 1, []⟩) ?_ ?_
      · refine sR ?_
        refine xs 50 rfl (sf_fldV rfl TT.fldA_74_0 (by decide) rfl ?_)
        refine xs 51 rfl (sf_ldV (v := pI ((idx l0 v7).fKind)) rfl TT.tyA_3 rfl rfl (ldv_ldc (ldc_Act_0 _) (by rw [lay_Act.len]; decide) (by decide)) ?_)
        refine xs 52 rfl (sf_eq (a := ((idx l0 v7).fKind)) (b := (3 : Int)) rfl rfl rfl ?_)
        refine XK.nz ?_
        refine QW.cond (t := (decide (((idx l0 v7).fKind) = (3 : Int)))) rfl zL (fun hb_11 => ?_) (fun hb_11 => ?_)
        · replace h := bGT h hb_11
          refine sR ?_
          refine XK.as (some 54) rfl rfl (sf_ldV (v := .agg [.d (.slice (v5_0_9.map (eL eRow)))]) rfl TT.tyA_71 rfl rfl ⟨⟨by simp, by simp⟩, rfl⟩ ⟨.d (.agg (cIndex (⟨v5_0_9⟩ : Index))), (Imp.toD rfl), ?_⟩)
          refine xs 55 rfl (sf_fldV rfl TT.fldA_74_1 (by decide) rfl ?_)
          refine xs 56 rfl (sf_fldV rfl TT.fldA_37_0 (by decide) rfl ?_)
          refine XK.as (some 57) rfl rfl (sf_ldV rfl TT.tyA_35 rfl rfl (ldv_ldcA (ldc_Act_1_0 _) (by rw [lay_Act.len]; decide) (by decide)) ⟨.d (.agg ((((idx l0 v7).fRow).fSum).1.map byteD)), imp_arr, ?_⟩)
          refine xs 58 rfl (sf_fldV rfl TT.fldA_74_1 (by decide) rfl ?_)
          refine xs 59 rfl (sf_fldV rfl TT.fldA_37_1 (by decide) rfl ?_)
          refine xs 60 rfl (sf_ldV (v := pI ((idx l0 v7).fRow.fEpoch)) rfl TT.tyA_3 rfl rfl (ldv_ldc (ldc_Act_1_1 _) (by rw [lay_Act.len]; decide) (by decide)) ?_)
          obtain ⟨x_12, hx_13, h⟩ := bG h
          refine xs 61 rfl (sf_call rfl rfl TT.enters_51 rfl (sim_pindex_Index_Drop (⟨v5_0_9⟩ : Index) (((idx l0 v7).fRow).fSum) (((idx l0 v7).fRow).fEpoch) _ hx_13) ?_)
          refine xm 53 (.d (.tuple [.agg (cIndex (x_12.1)), .val (.bool (x_12.2))])) ?_
          refine xs 62 rfl (sf_extract rfl rfl rfl ?_)
          refine xs 63 rfl (sf_extract rfl rfl rfl ?_)
          refine xs 10 rfl (sf_alloc (l := [.full (([] : (List (List Row))).map (eL eRow))]) rfl TT.zeroA_71 rfl rfl ?_)
          refine XK.st none rfl rfl (sf_stV (l' := [.d (.slice (((x_12.1).fpages).map (eL eRow)))]) rfl TT.tyA_71 rfl rfl rfl rfl rfl rfl (by simp) rfl ?_)
          refine xz 11 (pB (x_12.2)) ?_
          refine QW.seq ?_
          refine sR ?_
          refine xm 64 (pB (x_12.2)) ?_
          refine xm 65 (pB (decide ((0 : Int) ≤ x_9))) ?_
          refine xs 66 rfl (sf_bne (a := x_12.2) (b := (decide ((0 : Int) ≤ x_9))) rfl TT.under_4 rfl rfl ?_)
          refine XK.nz ?_
          refine QW.cond (t := (!(x_12.2 == (decide ((0 : Int) ≤ x_9))))) rfl zL (fun hb_14 => ?_) (fun hb_14 => ?_)
          · replace h := bGT h hb_14
            refine sR ?_
            refine xz 4 (pB false) ?_
            refine QW.ret zL (thR (thR (blR (thR (thR (blR (thR ?_)))))))
            obtain rfl := sG h
            exact Ends.one (.inr rfl) rfl (ResIs.tmp rfl) rfl rfl
          · replace h := bGF h hb_14
            refine QW.skip zL (nrm ?_)
            refine sR ?_
            refine XK.as (some 67) rfl rfl (sf_ldV (v := .agg [.d (.slice (((x_12.1).fpages).map (eL eRow)))]) rfl TT.tyA_71 rfl rfl ⟨⟨by simp, by simp⟩, rfl⟩ ⟨.d (.agg (cIndex (x_12.1))), (Imp.toD rfl), ?_⟩)
            refine XK.st none rfl rfl (sf_stV (l' := [.d (.slice (((x_12.1).fpages).map (eL eRow)))]) rfl TT.tyA_71 rfl rfl rfl rfl rfl rfl (by simp) rfl ?_)
            refine XK.nz ?_
            refine sR ?_
            refine xm 68 (pB (decide ((0 : Int) ≤ x_9))) ?_
            refine XK.nz ?_
            refine QW.cond (t := (decide ((0 : Int) ≤ x_9))) rfl zL (fun hb_15 => ?_) (fun hb_15 => ?_)
            · replace h := bGT h hb_15
              refine rG ?_
              refine xm 69 (.d (.slice (v6_9.map (eL eRow)))) ?_
              refine xs 70 rfl (sf_fldV rfl TT.fldA_74_1 (by decide) rfl ?_)
              refine xs 71 rfl (sf_fldV rfl TT.fldA_37_0 (by decide) rfl ?_)
              refine XK.as (some 72) rfl rfl (sf_ldV rfl TT.tyA_35 rfl rfl (ldv_ldcA (ldc_Act_1_0 _) (by rw [lay_Act.len]; decide) (by decide)) ⟨.d (.agg ((((idx l0 v7).fRow).fSum).1.map byteD)), imp_arr, ?_⟩)
              refine xs 73 rfl (sf_fldV rfl TT.fldA_74_1 (by decide) rfl ?_)
              refine xs 74 rfl (sf_fldV rfl TT.fldA_37_1 (by decide) rfl ?_)
              refine xs 75 rfl (sf_ldV (v := pI ((idx l0 v7).fRow.fEpoch)) rfl TT.tyA_3 rfl rfl (ldv_ldc (ldc_Act_1_1 _) (by rw [lay_Act.len]; decide) (by decide)) ?_)
              obtain ⟨x_16, hx_17, h⟩ := bG h
              refine xs 76 rfl (sf_call rfl rfl TT.enters_52 rfl (sim_ref48_Drop v6_9 (((idx l0 v7).fRow).fSum) (((idx l0 v7).fRow).fEpoch) _ hx_17) ?_)
              refine xz 6 (.d (.slice (x_16.map (eL eRow)))) ?_
              exact ⟨⟨tab [(0, .d (.slice (l0.map eAct))), (3, .d (.cptr (cRow ask1))), (5, .vptr 0 0), (6, .d (.slice (x_16.map (eL eRow)))), (7, pI v7)], tabH [.var [.d (.slice (((x_12.1).fpages).map (eL eRow)))]], 1, []⟩, View.mk 1 [0] _ _ _ rfl rfl (by decide) (iC (iC (iC (iC (iC trivial))))) (And.intro rfl trivial) rfl zL rfl, x_16, v7, (x_12.1).fpages, k_1, by omega, jG h, rfl⟩
            · replace h := bGF h hb_15
              refine QW.skip zL (nrm ?_)
              exact ⟨⟨tab [(0, .d (.slice (l0.map eAct))), (3, .d (.cptr (cRow ask1))), (5, .vptr 0 0), (6, .d (.slice (v6_9.map (eL eRow)))), (7, pI v7)], tabH [.var [.d (.slice (((x_12.1).fpages).map (eL eRow)))]], 1, []⟩, View.mk 1 [0] _ _ _ rfl rfl (by decide) (iC (iC (iC (iC (iC trivial))))) (And.intro rfl trivial) rfl zL rfl, v6_9, v7, (x_12.1).fpages, k_1, by omega, jG h, rfl⟩
        · replace h := bGF h hb_11
          refine sR ?_
          refine XK.as (some 78) rfl rfl (sf_ldV (v := .agg [.d (.slice (v5_0_9.map (eL eRow)))]) rfl TT.tyA_71 rfl rfl ⟨⟨by simp, by simp⟩, rfl⟩ ⟨.d (.agg (cIndex (⟨v5_0_9⟩ : Index))), (Imp.toD rfl), ?_⟩)
          refine xs 79 rfl (sf_fldV rfl TT.fldA_74_1 (by decide) rfl ?_)
          refine XK.as (some 80) rfl rfl (sf_ldV rfl TT.tyA_37 rfl rfl (ldv_ldcA (ldc_Act_1 _) (by rw [lay_Act.len]; decide) (by decide)) ⟨.d (.agg (cRow ((idx l0 v7).fRow))), imp_arr, ?_⟩)
          obtain ⟨x_18, hx_19, h⟩ := bG h
          refine xs 81 rfl (sf_call rfl rfl TT.enters_53 rfl (sim_pindex_Index_Put (⟨v5_0_9⟩ : Index) ((idx l0 v7).fRow) _ hx_19) ?_)
          refine xm 77 (.d (.tuple [.agg (cIndex (x_18.1)), .val (.bool (x_18.2))])) ?_
          refine xs 82 rfl (sf_extract rfl rfl rfl ?_)
          refine xs 83 rfl (sf_extract rfl rfl rfl ?_)
          refine xs 12 rfl (sf_alloc (l := [.full (([] : (List (List Row))).map (eL eRow))]) rfl TT.zeroA_71 rfl rfl ?_)
          refine XK.st none rfl rfl (sf_stV (l' := [.d (.slice (((x_18.1).fpages).map (eL eRow)))]) rfl TT.tyA_71 rfl rfl rfl rfl rfl rfl (by simp) rfl ?_)
          refine xz 13 (pB (x_18.2)) ?_
          refine sR ?_
          refine xm 84 (pB (decide ((0 : Int) ≤ x_9))) ?_
          refine xs 85 rfl (sf_not rfl rfl ?_)
          refine xm 86 (pB (!(decide ((0 : Int) ≤ x_9)))) ?_
          refine xg 87 (.vptr 1 1) rfl rfl (fun hg => sf_fldV rfl TT.fldA_74_1 (by decide) rfl g3) ?_
          refine XK.gd (v := .d (.agg (cRow ((idx l0 v7).fRow)))) (T := [1]) (some 88) rfl rfl (by repeat (first | exact trivial | refine ⟨fun q => by first | rfl | exact q | exact cda q | exact cdb q, ?_⟩)) (fun hg => sf_ldV rfl TT.tyA_37 rfl rfl (ldv_ldcA (ldc_Act_1 _) (by rw [lay_Act.len]; decide) (by decide)) ⟨⟨rfl, rfl, rfl⟩, rfl, imp_arr⟩) (fun _ i hi => by simp only [List.mem_singleton] at hi; subst hi; decide) ?_
          refine xg 89 (.full (([(idx l0 v7).fRow] : List Row).map eRow)) rfl rfl (fun hg => sf_row (en := eRow) (l := ([(idx l0 v7).fRow] : List Row)) rfl TT.rowA_22 lay_Row (by first | rfl | (simp only [List.map_cons, List.map_nil, eRow_eq]; rfl)) rfl (by decide) (by simp [solids, partsP, evP, ofVal, PV.solid, putS_at, tab, unS, unT, unC, asCond, Value.oneCell']) g3) ?_
          obtain ⟨x_20, hx_21, h⟩ := bG h
          refine xg 90 (pB x_20) rfl rfl (fun hg => sf_call rfl rfl TT.enters_18 rfl (sim_ref47_May ([(idx l0 v7).fRow] : List Row) _ (bT hx_21 hg)) g3) ?_
          refine xs 91 rfl (sf_pickA rfl rfl rfl rfl (fun hb => by rw [hb]; rfl) (fun _ => rfl) ?_)
          refine xz 14 (pB ((!(decide ((0 : Int) ≤ x_9))) && x_20)) ?_
          refine QW.seq ?_
          refine QW.seq ?_
          refine QW.view (s' := ⟨tab [(0, .d (.slice (l0.map eAct))), (3, .d (.cptr (cRow ask1))), (5, .vptr 0 0), (6, .d (.slice (v6_9.map (eL eRow)))), (7, pI v7), (8, .vptr 1 0), (12, .vptr 2 0), (13, pB (x_18.2)), (14, pB ((!(decide ((0 : Int) ≤ x_9))) && x_20))], tabH [.var [.d (.slice (v5_0_9.map (eL eRow)))], .var ((cAct (idx l0 v7)).map .d), .var [.d (.slice (((x_18.1).fpages).map (eL eRow)))]], 3, []⟩) (View.mk 3 [0, 1, 2] _ _ _ rfl rfl (by decide) (iC (iC (iC (iC (iC (iC (iC (iC (iC trivial))))))))) (And.intro rfl (And.intro (by simp only [atH1, rowC, PV.res_d]; rfl) (And.intro rfl trivial))) rfl zL rfl) zL ?_
          refine rG ?_
          refine xm 92 (pB (x_18.2)) ?_
          refine xm 93 (pB ((!(decide ((0 : Int) ≤ x_9))) && x_20)) ?_
          refine xs 94 rfl (sf_bne (a := x_18.2) (b := ((!(decide ((0 : Int) ≤ x_9))) && x_20)) rfl TT.under_4 rfl rfl ?_)
          refine XK.nz ?_
          refine QW.cond (t := (!(x_18.2 == ((!(decide ((0 : Int) ≤ x_9))) && x_20)))) rfl zL (fun hb_22 => ?_) (fun hb_22 => ?_)
          · replace h := bGT h hb_22
            refine sR ?_
            refine xz 4 (pB false) ?_
            refine QW.ret zL (thR (thR (blR (thR (thR (blR (thR ?_)))))))
            obtain rfl := sG h
            exact Ends.one (.inr rfl) rfl (ResIs.tmp rfl) rfl rfl
          · replace h := bGF h hb_22
            refine QW.skip zL (nrm ?_)
            refine sR ?_
            refine XK.as (some 95) rfl rfl (sf_ldV (v := .agg [.d (.slice (((x_18.1).fpages).map (eL eRow)))]) rfl TT.tyA_71 rfl rfl ⟨⟨by simp, by simp⟩, rfl⟩ ⟨.d (.agg (cIndex (x_18.1))), (Imp.toD rfl), ?_⟩)
            refine XK.st none rfl rfl (sf_stV (l' := [.d (.slice (((x_18.1).fpages).map (eL eRow)))]) rfl TT.tyA_71 rfl rfl rfl rfl rfl rfl (by simp) rfl ?_)
            refine XK.nz ?_
            refine sR ?_
            refine xm 96 (pB ((!(decide ((0 : Int) ≤ x_9))) && x_20)) ?_
            refine XK.nz ?_
            refine QW.cond (t := ((!(decide ((0 : Int) ≤ x_9))) && x_20)) rfl zL (fun hb_23 => ?_) (fun hb_23 => ?_)
            · replace h := bGT h hb_23
              refine rG ?_
              refine xm 97 (.d (.slice (v6_9.map (eL eRow)))) ?_
              refine xs 98 rfl (sf_fldV rfl TT.fldA_74_1 (by decide) rfl ?_)
              refine XK.as (some 99) rfl rfl (sf_ldV rfl TT.tyA_37 rfl rfl (ldv_ldcA (ldc_Act_1 _) (by rw [lay_Act.len]; decide) (by decide)) ⟨.d (.agg (cRow ((idx l0 v7).fRow))), imp_arr, ?_⟩)
              obtain ⟨x_24, hx_25, h⟩ := bG h
              refine xs 100 rfl (sf_call rfl rfl TT.enters_54 rfl (sim_ref48_Put v6_9 ((idx l0 v7).fRow) _ hx_25) ?_)
              refine xz 6 (.d (.slice (x_24.map (eL eRow)))) ?_
              exact ⟨⟨tab [(0, .d (.slice (l0.map eAct))), (3, .d (.cptr (cRow ask1))), (5, .vptr 0 0), (6, .d (.slice (x_24.map (eL eRow)))), (7, pI v7)], tabH [.var [.d (.slice (((x_18.1).fpages).map (eL eRow)))]], 1, []⟩, View.mk 1 [0] _ _ _ rfl rfl (by decide) (iC (iC (iC (iC (iC trivial))))) (And.intro rfl trivial) rfl zL rfl, x_24, v7, (x_18.1).fpages, k_1, by omega, jG h, rfl⟩
            · replace h := bGF h hb_23
              refine QW.skip zL (nrm ?_)
              exact ⟨⟨tab [(0, .d (.slice (l0.map eAct))), (3, .d (.cptr (cRow ask1))), (5, .vptr 0 0), (6, .d (.slice (v6_9.map (eL eRow)))), (7, pI v7)], tabH [.var [.d (.slice (((x_18.1).fpages).map (eL eRow)))]], 1, []⟩, View.mk 1 [0] _ _ _ rfl rfl (by decide) (iC (iC (iC (iC (iC trivial))))) (And.intro rfl trivial) rfl zL rfl, v6_9, v7, (x_18.1).fpages, k_1, by omega, jG h, rfl⟩
      · rintro _ ⟨v6_23, v7_15, v5_0_23, k_26s, k_26h, h, rfl⟩
        obtain ⟨k_26, rfl, h9⟩ := run_succ h; replace h := h9; clear h9; rw [step_law48_PindexDoes] at h
        refine sR ?_
        refine XK.as (some 101) rfl rfl (sf_ldV (v := .agg [.d (.slice (v5_0_23.map (eL eRow)))]) rfl TT.tyA_71 rfl rfl ⟨⟨by simp, by simp⟩, rfl⟩ ⟨.d (.agg (cIndex (⟨v5_0_23⟩ : Index))), (Imp.toD rfl), ?_⟩)
        obtain ⟨x_27, hx_28, h⟩ := bG h
        refine xs 102 rfl (sf_call rfl rfl TT.enters_55 rfl (sim_pindex_Index_Pages (⟨v5_0_23⟩ : Index) _ hx_28) ?_)
        refine xz 15 (.d (.slice (x_27.map eI))) ?_
        refine QW.seq ?_
        refine sR ?_
        refine XK.as (some 103) rfl rfl (sf_ldV (v := .agg [.d (.slice (v5_0_23.map (eL eRow)))]) rfl TT.tyA_71 rfl rfl ⟨⟨by simp, by simp⟩, rfl⟩ ⟨.d (.agg (cIndex (⟨v5_0_23⟩ : Index))), (Imp.toD rfl), ?_⟩)
        obtain ⟨x_29, hx_30, h⟩ := bG h
        refine xs 104 rfl (sf_call rfl rfl TT.enters_56 rfl (sim_pindex_Index_All (⟨v5_0_23⟩ : Index) _ hx_30) ?_)
        refine xm 105 (.d (.slice (v6_23.map (eL eRow)))) ?_
        obtain ⟨x_31, hx_32, h⟩ := bG h
        refine xs 106 rfl (sf_call rfl rfl TT.enters_50 rfl (sim_ref48_All v6_23 _ hx_32) ?_)
        obtain ⟨x_33, hx_34, h⟩ := bG h
        refine xs 107 rfl (sf_call rfl rfl TT.enters_21 rfl (sim_ref47_Same x_29 x_31 _ hx_34) ?_)
        refine xs 108 rfl (sf_not rfl rfl ?_)
        refine xm 109 (pB (!x_33)) ?_
        refine XK.gd (v := .d (.agg (cIndex (⟨v5_0_23⟩ : Index)))) (T := [0]) (some 110) rfl rfl (by repeat (first | exact trivial | refine ⟨fun q => by first | rfl | exact q | exact cda q | exact cdb q, ?_⟩)) (fun hg => sf_ldV (v := .agg [.d (.slice (v5_0_23.map (eL eRow)))]) rfl TT.tyA_71 rfl rfl ⟨⟨by simp, by simp⟩, rfl⟩ ⟨⟨rfl, rfl, rfl⟩, rfl, (Imp.toD rfl)⟩) (fun _ i hi => by simp only [List.mem_singleton] at hi; subst hi; decide) ?_
        obtain ⟨x_35, hx_36, h⟩ := bG h
        refine xg 111 (.d (.slice (x_35.map eRow))) rfl rfl (fun hg => sf_call rfl rfl TT.enters_56 rfl (sim_pindex_Index_All (⟨v5_0_23⟩ : Index) _ (bT hx_36 hg)) g3) ?_
        obtain ⟨x_37, hx_38, h⟩ := bG h
        refine xg 112 (pB x_37) rfl rfl (fun hg => sf_call rfl rfl TT.enters_57 rfl (sim_ref47_Rises x_35 _ (bT hx_38 hg)) g3) ?_
        refine xg 113 (pB (!x_37)) rfl rfl (fun hg => sf_not rfl rfl g3) ?_
        refine xs 114 rfl (sf_pickO rfl rfl rfl rfl (fun _ => rfl) (fun hb => by rw [hb]; rfl) ?_)
        refine xm 115 (pB ((!x_33) || (!x_37))) ?_
        refine xg 116 (.d (.slice (x_27.map eI))) rfl rfl (fun hg => sf_move (v := .d (.slice (x_27.map eI))) rfl rfl g3) ?_
        refine xg 117 (pI (x_27.length : Int)) rfl rfl (fun hg => sf_lenL (en := eI) (l := x_27) rfl TT.under_81 rfl g3) ?_
        refine xg 118 (.d (.slice (v6_23.map (eL eRow)))) rfl rfl (fun hg => sf_move (v := .d (.slice (v6_23.map (eL eRow)))) rfl rfl g3) ?_
        refine xg 119 (pI (v6_23.length : Int)) rfl rfl (fun hg => sf_lenL (en := (eL eRow)) (l := v6_23) rfl TT.under_72 rfl g3) ?_
        refine xg 120 (pB (!decide ((x_27.length : Int) = (v6_23.length : Int)))) rfl rfl (fun hg => sf_ne (a := (x_27.length : Int)) (b := (v6_23.length : Int)) rfl rfl rfl g3) ?_
        refine xs 121 rfl (sf_pickO rfl rfl rfl rfl (fun _ => rfl) (fun hb => by rw [hb]; rfl) ?_)
        refine XK.nz ?_
        refine QW.cond (t := (((!x_33) || (!x_37)) || (!decide ((x_27.length : Int) = (v6_23.length : Int))))) rfl zL (fun hb_39 => ?_) (fun hb_39 => ?_)
        · replace h := bGT h hb_39
          refine sR ?_
          refine xz 4 (pB false) ?_
          refine QW.ret zL (thR (blR (thR (thR (blR (thR ?_))))))
          obtain rfl := sG h
          exact Ends.one (.inr rfl) rfl (ResIs.tmp rfl) rfl rfl
        · replace h := bGF h hb_39
          refine QW.skip zL (nrm ?_)
          refine sR ?_
          refine xz 16 (pI (0)) ?_
          refine QW.block ?_
          refine QW.loop (fun k σ => ∃ v6_25 : (List (List Row)), ∃ v7_17 : Int, ∃ v15_17 : (List Int), ∃ v16_11 : Int, ∃ v5_0_25 : (List (List Row)), k ≤ k_26 ∧ run (step_law48_PindexDoes l0 ask1) k (.L3 v6_25 v7_17 v15_17 v16_11 v5_0_25) = some r ∧ σ = ⟨tab [(0, .d (.slice (l0.map eAct))), (3, .d (.cptr (cRow ask1))), (5, .vptr 0 0), (6, .d (.slice (v6_25.map (eL eRow)))), (7, pI v7_17), (15, .d (.slice (v15_17.map eI))), (16, pI v16_11)], tabH [.var [.d (.slice (v5_0_25.map (eL eRow)))]], 1, []⟩) k_26 zL ⟨⟨tab [(0, .d (.slice (l0.map eAct))), (3, .d (.cptr (cRow ask1))), (5, .vptr 0 0), (6, .d (.slice (v6_23.map (eL eRow)))), (7, pI v7_15), (15, .d (.slice (x_27.map eI))), (16, pI (0))], tabH [.var [.d (.slice (v5_0_23.map (eL eRow)))]], 1, []⟩, View.mk 1 [0] _ _ _ rfl rfl (by decide) (iC (iC (iC (iC (iC (iC (iC trivial))))))) (And.intro rfl trivial) rfl zL rfl, v6_23, v7_15, x_27, 0, v5_0_23, Nat.le_refl _, jG h, rfl⟩ ?_
          rintro k_40s _ ⟨v6_25, v7_17, v15_17, v16_11, v5_0_25, k_40h, h, rfl⟩
          obtain ⟨k_40, rfl, h9⟩ := run_succ h; replace h := h9; clear h9; rw [step_law48_PindexDoes] at h
          refine QW.seq ?_
          refine sR ?_
          refine xm 122 (pI v16_11) ?_
          refine xm 123 (.d (.slice (v15_17.map eI))) ?_
          refine xs 124 rfl (sf_lenL (en := eI) (l := v15_17) rfl TT.under_81 rfl ?_)
          refine xs 125 rfl (sf_lss (a := v16_11) (b := (v15_17.length : Int)) rfl rfl rfl ?_)
          refine XK.nz ?_
          refine QW.cond (t := (decide (v16_11 < (v15_17.length : Int)))) rfl zL (fun hb_41 => ?_) (fun hb_41 => ?_)
          · replace h := bGT h hb_41
            refine QW.skip zL (nrm ?_)
            refine QW.seq ?_
            refine QW.block ?_
            refine QW.seq ?_
            refine QW.region zL (PW.regQ (id := 30) mixedX (M := _) rfl (by kernel_rfl) ?_)
            refine RQ.st (some 128) rfl rfl (sf_move (v := .d (.slice (v15_17.map eI))) rfl rfl ⟨⟨rfl, rfl⟩, ?_⟩)
            refine RQ.st (some 129) rfl rfl (sf_move (v := pI v16_11) rfl rfl ⟨⟨rfl, rfl⟩, ?_⟩)
            obtain ⟨c_42, h⟩ := gG h
            refine RQ.st (some 130) rfl rfl (sf_idxA (l := v15_17) (i := v16_11) rfl TT.slcA_81 lay_I rfl rfl c_42 ⟨⟨rfl, rfl⟩, ?_⟩)
            refine RQ.st (some 131) rfl rfl (sf_ldC (d := .val (.int .i64 (idx v15_17 v16_11))) rfl TT.tyA_3 rfl (LdC.one) ⟨⟨rfl, rfl⟩, ?_⟩)
            refine RQ.st (some 132) rfl rfl (sf_move (v := .d (.slice (v6_25.map (eL eRow)))) rfl rfl ⟨⟨rfl, rfl⟩, ?_⟩)
            refine RQ.st (some 133) rfl rfl (sf_move (v := pI v16_11) rfl rfl ⟨⟨rfl, rfl⟩, ?_⟩)
            obtain ⟨c_43, h⟩ := gG h
            refine RQ.st (some 134) rfl rfl (sf_idxA (l := v6_25) (i := v16_11) rfl TT.slcA_72 lay_L rfl rfl c_43 ⟨⟨rfl, rfl⟩, ?_⟩)
            refine RQ.st (some 135) rfl rfl (sf_ldC (d := .slice ((idx v6_25 v16_11).map eRow)) rfl TT.tyA_22 rfl (LdC.one) ⟨⟨rfl, rfl⟩, ?_⟩)
            refine RQ.st (some 136) rfl rfl (sf_lenL (en := eRow) (l := (idx v6_25 v16_11)) rfl TT.under_22 rfl ⟨⟨rfl, rfl⟩, ?_⟩)
            refine RQ.st (some 137) rfl rfl (sf_ne (a := (idx v15_17 v16_11)) (b := ((idx v6_25 v16_11).length : Int)) rfl rfl rfl ⟨⟨rfl, rfl⟩, ?_⟩)
            refine RQ.st (some 138) rfl rfl (sf_move (v := pB (!decide ((idx v15_17 v16_11) = ((idx v6_25 v16_11).length : Int)))) rfl rfl ⟨⟨rfl, rfl⟩, ?_⟩)
            refine RQ.gd (v := .d (.slice (v15_17.map eI))) (T := []) (some 139) rfl rfl (by repeat (first | exact trivial | refine ⟨fun q => by first | rfl | exact q | exact cda q | exact cdb q, ?_⟩)) (fun hg => sf_move (v := .d (.slice (v15_17.map eI))) rfl rfl g3) nm0 ?_
            refine RQ.gd (v := pI v16_11) (T := []) (some 140) rfl rfl (by repeat (first | exact trivial | refine ⟨fun q => by first | rfl | exact q | exact cda q | exact cdb q, ?_⟩)) (fun hg => sf_move (v := pI v16_11) rfl rfl g3) nm0 ?_
            obtain ⟨c_44, h⟩ := gG h
            refine RQ.gd (v := .d (.cptr ([.val (.int .i64 (idx v15_17 v16_11))]))) (T := []) (some 141) rfl rfl (by repeat (first | exact trivial | refine ⟨fun q => by first | rfl | exact q | exact cda q | exact cdb q, ?_⟩)) (fun hg => sf_idxA (l := v15_17) (i := v16_11) rfl TT.slcA_81 lay_I rfl rfl (c_44 (eqB hg)) g3) nm0 ?_
            refine RQ.gd (v := pI (idx v15_17 v16_11)) (T := []) (some 142) rfl rfl (by repeat (first | exact trivial | refine ⟨fun q => by first | rfl | exact q | exact cda q | exact cdb q, ?_⟩)) (fun hg => sf_ldC (d := .val (.int .i64 (idx v15_17 v16_11))) rfl TT.tyA_3 rfl (LdC.one) g3) nm0 ?_
            refine RQ.gd (v := pB (decide ((idx v15_17 v16_11) < (1 : Int)))) (T := []) (some 143) rfl rfl (by repeat (first | exact trivial | refine ⟨fun q => by first | rfl | exact q | exact cda q | exact cdb q, ?_⟩)) (fun hg => sf_lss (a := (idx v15_17 v16_11)) (b := (1 : Int)) rfl rfl rfl g3) nm0 ?_
            refine RQ.st (some 144) rfl rfl (sf_pickO rfl rfl rfl rfl (fun _ => rfl) (fun hb => by rw [hb]; rfl) ⟨⟨rfl, rfl⟩, ?_⟩)
            refine RQ.st (some 145) rfl rfl (sf_move (v := pB ((!decide ((idx v15_17 v16_11) = ((idx v6_25 v16_11).length : Int))) || (decide ((idx v15_17 v16_11) < (1 : Int))))) rfl rfl ⟨⟨rfl, rfl⟩, ?_⟩)
            refine RQ.gd (v := .d (.slice (v15_17.map eI))) (T := []) (some 146) rfl rfl (by repeat (first | exact trivial | refine ⟨fun q => by first | rfl | exact q | exact cda q | exact cdb q, ?_⟩)) (fun hg => sf_move (v := .d (.slice (v15_17.map eI))) rfl rfl g3) nm0 ?_
            refine RQ.gd (v := pI v16_11) (T := []) (some 147) rfl rfl (by repeat (first | exact trivial | refine ⟨fun q => by first | rfl | exact q | exact cda q | exact cdb q, ?_⟩)) (fun hg => sf_move (v := pI v16_11) rfl rfl g3) nm0 ?_
            obtain ⟨c_45, h⟩ := gG h
            refine RQ.gd (v := .d (.cptr ([.val (.int .i64 (idx v15_17 v16_11))]))) (T := []) (some 148) rfl rfl (by repeat (first | exact trivial | refine ⟨fun q => by first | rfl | exact q | exact cda q | exact cdb q, ?_⟩)) (fun hg => sf_idxA (l := v15_17) (i := v16_11) rfl TT.slcA_81 lay_I rfl rfl (c_45 (eqB hg)) g3) nm0 ?_
            refine RQ.gd (v := pI (idx v15_17 v16_11)) (T := []) (some 149) rfl rfl (by repeat (first | exact trivial | refine ⟨fun q => by first | rfl | exact q | exact cda q | exact cdb q, ?_⟩)) (fun hg => sf_ldC (d := .val (.int .i64 (idx v15_17 v16_11))) rfl TT.tyA_3 rfl (LdC.one) g3) nm0 ?_
            refine RQ.gd (v := pB (decide ((8 : Int) < (idx v15_17 v16_11)))) (T := []) (some 150) rfl rfl (by repeat (first | exact trivial | refine ⟨fun q => by first | rfl | exact q | exact cda q | exact cdb q, ?_⟩)) (fun hg => sf_gtr (a := (idx v15_17 v16_11)) (b := (8 : Int)) rfl rfl rfl g3) nm0 ?_
            refine RQ.st (some 151) rfl rfl (sf_pickO rfl rfl rfl rfl (fun _ => rfl) (fun hb => by rw [hb]; rfl) ⟨⟨rfl, rfl⟩, ?_⟩)
            refine RQ.nil (nrm ?_)
            refine QW.cond (t := (((!decide ((idx v15_17 v16_11) = ((idx v6_25 v16_11).length : Int))) || (decide ((idx v15_17 v16_11) < (1 : Int)))) || (decide ((8 : Int) < (idx v15_17 v16_11))))) rfl zL (fun hb_46 => ?_) (fun hb_46 => ?_)
            · replace h := bGT h hb_46
              refine sR ?_
              refine xz 4 (pB false) ?_
              refine QW.ret zL (blR (thR (thR (blR (blR (thR (thR (blR (thR ?_)))))))))
              obtain rfl := sG h
              exact Ends.one (.inr rfl) rfl (ResIs.tmp rfl) rfl rfl
            · replace h := bGF h hb_46
              refine QW.skip zL (blN (nrm ?_))
              refine rG ?_
              refine xm 126 (pI v16_11) ?_
              obtain ⟨c_47, h⟩ := gG h
              refine xs 127 rfl (sf_add (a := v16_11) (b := (1 : Int)) rfl rfl rfl c_47 ?_)
              refine xz 16 (pI (v16_11 + (1 : Int))) ?_
              exact ⟨k_40, by omega, ⟨tab [(0, .d (.slice (l0.map eAct))), (3, .d (.cptr (cRow ask1))), (5, .vptr 0 0), (6, .d (.slice (v6_25.map (eL eRow)))), (7, pI v7_17), (15, .d (.slice (v15_17.map eI))), (16, pI (v16_11 + (1 : Int)))], tabH [.var [.d (.slice (v5_0_25.map (eL eRow)))]], 1, []⟩, View.mk 1 [0] _ _ _ rfl rfl (by decide) (iC (iC (iC (iC (iC (iC (iC trivial))))))) (And.intro rfl trivial) rfl zL rfl, v6_25, v7_17, v15_17, (v16_11 + (1 : Int)), v5_0_25, by omega, jG h, rfl⟩
          · replace h := bGF h hb_41
            refine QW.exit zL (thX (thX (exE (blN (nrm ?_)))))
            refine rG ?_
            refine xm 28 (pI v7_17) ?_
            obtain ⟨c_48, h⟩ := gG h
            refine xs 29 rfl (sf_add (a := v7_17) (b := (1 : Int)) rfl rfl rfl c_48 ?_)
            refine xz 7 (pI (v7_17 + (1 : Int))) ?_
            exact ⟨k_40, by omega, ⟨tab [(0, .d (.slice (l0.map eAct))), (3, .d (.cptr (cRow ask1))), (5, .vptr 0 0), (6, .d (.slice (v6_25.map (eL eRow)))), (7, pI (v7_17 + (1 : Int)))], tabH [.var [.d (.slice (v5_0_25.map (eL eRow)))]], 1, []⟩, View.mk 1 [0] _ _ _ rfl rfl (by decide) (iC (iC (iC (iC (iC trivial))))) (And.intro rfl trivial) rfl zL rfl, v6_25, (v7_17 + (1 : Int)), v5_0_25, by omega, jG h, rfl⟩
  · replace h := bGF h hb_2
    refine QW.exit zL (thX (thX (exE (nrm ?_))))
    refine sR ?_
    refine XK.as (some 153) rfl rfl (sf_ldV (v := .agg [.d (.slice (v5_0_9.map (eL eRow)))]) rfl TT.tyA_71 rfl rfl ⟨⟨by simp, by simp⟩, rfl⟩ ⟨.d (.agg (cIndex (⟨v5_0_9⟩ : Index))), (Imp.toD rfl), ?_⟩)
    refine xs 154 rfl (sf_fldC rfl TT.fldA_37_0 (by decide) rfl ?_)
    refine xs 155 rfl (sf_ldC (d := .agg ((ask1.fSum).1.map byteD)) rfl TT.tyA_35 rfl (ldc_Row_0 _) ?_)
    refine xs 156 rfl (sf_fldC rfl TT.fldA_37_1 (by decide) rfl ?_)
    refine xs 157 rfl (sf_ldC (d := .val (.int .i64 (ask1.fEpoch))) rfl TT.tyA_3 rfl (ldc_Row_1 _) ?_)
    obtain ⟨x_49, hx_50, h⟩ := bG h
    refine xs 158 rfl (sf_call rfl rfl TT.enters_58 rfl (sim_pindex_Index_Get (⟨v5_0_9⟩ : Index) (ask1.fSum) (ask1.fEpoch) _ hx_50) ?_)
    refine xm 152 (.d (.tuple [.agg (cRow (x_49.1)), .val (.bool (x_49.2))])) ?_
    refine xs 159 rfl (sf_extract rfl rfl rfl ?_)
    refine xs 160 rfl (sf_extract rfl rfl rfl ?_)
    refine xs 17 rfl (sf_alloc (l := ((cRow (⟨(Arr.rep 32 (0 : UInt8)), (0 : Int), ([] : (List UInt8))⟩ : Row)).map .d)) rfl TT.zeroA_37 rfl rfl ?_)
    refine XK.st none rfl rfl (sf_stV (l' := ((cRow (x_49.1)).map .d)) rfl TT.tyA_37 rfl rfl rfl rfl rfl (len_dd (lay_Row.len _)) (le_dd (lay_Row.len _)) (spl_dd ((lay_Row.len _).trans (lay_Row.len _).symm)) ?_)
    refine xz 18 (pB (x_49.2)) ?_
    refine QW.seq ?_
    refine QW.region zL (PW.regQ (id := 33) mixedX (M := _) rfl (by kernel_rfl) ?_)
    refine RQ.st (some 161) rfl rfl (sf_move (v := .d (.slice (v6_9.map (eL eRow)))) rfl rfl ⟨⟨rfl, rfl⟩, ?_⟩)
    obtain ⟨x_51, hx_52, h⟩ := bG h
    refine RQ.st (some 162) rfl rfl (sf_call rfl rfl TT.enters_50 rfl (sim_ref48_All v6_9 _ hx_52) ⟨⟨rfl, rfl⟩, ?_⟩)
    refine RQ.st (some 163) rfl rfl (sf_fldC rfl TT.fldA_37_0 (by decide) rfl ⟨⟨rfl, rfl⟩, ?_⟩)
    refine RQ.st (some 164) rfl rfl (sf_ldC (d := .agg ((ask1.fSum).1.map byteD)) rfl TT.tyA_35 rfl (ldc_Row_0 _) ⟨⟨rfl, rfl⟩, ?_⟩)
    refine RQ.st (some 165) rfl rfl (sf_fldC rfl TT.fldA_37_1 (by decide) rfl ⟨⟨rfl, rfl⟩, ?_⟩)
    refine RQ.st (some 166) rfl rfl (sf_ldC (d := .val (.int .i64 (ask1.fEpoch))) rfl TT.tyA_3 rfl (ldc_Row_1 _) ⟨⟨rfl, rfl⟩, ?_⟩)
    obtain ⟨x_53, hx_54, h⟩ := bG h
    refine RQ.st (some 167) rfl rfl (sf_call rfl rfl TT.enters_27 rfl (sim_ref47_Find x_51 (ask1.fSum) (ask1.fEpoch) _ hx_54) ⟨⟨rfl, rfl⟩, ?_⟩)
    refine RQ.st (some 19) rfl rfl (sf_assign (v := pI x_53) rfl rfl ⟨⟨rfl, rfl⟩, ?_⟩)
    refine RQ.nil (nrm ?_)
    refine QW.seq ?_
    refine QW.view (s' := ⟨tab [(6, .d (.slice (v6_9.map (eL eRow)))), (17, .vptr 0 0), (18, pB (x_49.2)), (19, pI x_53)], tabH [.var ((cRow (x_49.1)).map .d)], 1, []⟩) (View.mk 1 [1] _ _ _ rfl rfl (by decide) (iC (iC (iC (iC trivial)))) (And.intro (by simp only [atH1, rowC, PV.res_d]; rfl) trivial) rfl zL rfl) zL ?_
    refine QW.region zL (PW.regQ (id := 34) mixedX (M := _) rfl (by kernel_rfl) ?_)
    obtain ⟨x_55, hx_56, h⟩ := bG h
    refine RQ.st (some 168) rfl rfl (sf_call rfl rfl TT.enters_49 rfl (sim_law48_awake  _ hx_56) ⟨⟨rfl, rfl⟩, ?_⟩)
    refine RQ.st (some 169) rfl rfl (sf_move (v := pB x_55) rfl rfl ⟨⟨rfl, rfl⟩, ?_⟩)
    refine RQ.gd (v := pB (x_49.2)) (T := []) (some 170) rfl rfl (by repeat (first | exact trivial | refine ⟨fun q => by first | rfl | exact q | exact cda q | exact cdb q, ?_⟩)) (fun hg => sf_move (v := pB (x_49.2)) rfl rfl g3) nm0 ?_
    refine RQ.gd (v := pI x_53) (T := []) (some 171) rfl rfl (by repeat (first | exact trivial | refine ⟨fun q => by first | rfl | exact q | exact cda q | exact cdb q, ?_⟩)) (fun hg => sf_move (v := pI x_53) rfl rfl g3) nm0 ?_
    refine RQ.gd (v := pB (decide ((0 : Int) ≤ x_53))) (T := []) (some 172) rfl rfl (by repeat (first | exact trivial | refine ⟨fun q => by first | rfl | exact q | exact cda q | exact cdb q, ?_⟩)) (fun hg => sf_geq (a := x_53) (b := (0 : Int)) rfl rfl rfl g3) nm0 ?_
    refine RQ.gd (v := pB (x_49.2 == (decide ((0 : Int) ≤ x_53)))) (T := []) (some 173) rfl rfl (by repeat (first | exact trivial | refine ⟨fun q => by first | rfl | exact q | exact cda q | exact cdb q, ?_⟩)) (fun hg => sf_beq (a := x_49.2) (b := (decide ((0 : Int) ≤ x_53))) rfl TT.under_4 rfl rfl g3) nm0 ?_
    refine RQ.st (some 174) rfl rfl (sf_pickA rfl rfl rfl rfl (fun hb => by rw [hb]; rfl) (fun _ => rfl) ⟨⟨rfl, rfl⟩, ?_⟩)
    refine RQ.st (some 175) rfl rfl (sf_move (v := pB (x_55 && (x_49.2 == (decide ((0 : Int) ≤ x_53))))) rfl rfl ⟨⟨rfl, rfl⟩, ?_⟩)
    refine RQ.gd (v := pB (x_49.2)) (T := []) (some 176) rfl rfl (by repeat (first | exact trivial | refine ⟨fun q => by first | rfl | exact q | exact cda q | exact cdb q, ?_⟩)) (fun hg => sf_move (v := pB (x_49.2)) rfl rfl g3) nm0 ?_
    refine RQ.gd (v := pB (!(x_49).2)) (T := []) (some 177) rfl rfl (by repeat (first | exact trivial | refine ⟨fun q => by first | rfl | exact q | exact cda q | exact cdb q, ?_⟩)) (fun hg => sf_not rfl rfl g3) nm0 ?_
    refine RQ.gd (v := pB (!(x_49).2)) (T := []) (some 178) rfl rfl (by repeat (first | exact trivial | refine ⟨fun q => by first | rfl | exact q | exact cda q | exact cdb q, ?_⟩)) (fun hg => sf_move (v := pB (!(x_49).2)) rfl rfl g3) nm0 ?_
    refine RQ.gd (v := .d (.agg (cRow (x_49.1)))) (T := [0]) (some 179) rfl rfl (by repeat (first | exact trivial | refine ⟨fun q => by first | rfl | exact q | exact cda q | exact cdb q, ?_⟩)) (fun hg => sf_ldV (v := .agg ((cRow (x_49.1)).map .d)) rfl TT.tyA_37 rfl rfl (ldv_dd (lay_Row.len _) (by decide)) ⟨⟨rfl, rfl, rfl⟩, rfl, imp_arr⟩) (fun _ i hi => by simp only [List.mem_singleton] at hi; subst hi; decide) ?_
    refine RQ.gd (v := .d (.slice (v6_9.map (eL eRow)))) (T := []) (some 180) rfl rfl (by repeat (first | exact trivial | refine ⟨fun q => by first | rfl | exact q | exact cda q | exact cdb q, ?_⟩)) (fun hg => sf_move (v := .d (.slice (v6_9.map (eL eRow)))) rfl rfl g3) nm0 ?_
    obtain ⟨x_57, hx_58, h⟩ := bG h
    refine RQ.gd (v := .d (.slice (x_57.map eRow))) (T := []) (some 181) rfl rfl (by repeat (first | exact trivial | refine ⟨fun q => by first | rfl | exact q | exact cda q | exact cdb q, ?_⟩)) (fun hg => sf_call rfl rfl TT.enters_50 rfl (sim_ref48_All v6_9 _ (bT hx_58 hg)) g3) nm0 ?_
    refine RQ.gd (v := pI x_53) (T := []) (some 182) rfl rfl (by repeat (first | exact trivial | refine ⟨fun q => by first | rfl | exact q | exact cda q | exact cdb q, ?_⟩)) (fun hg => sf_move (v := pI x_53) rfl rfl g3) nm0 ?_
    obtain ⟨c_59, h⟩ := gG h
    refine RQ.gd (v := .d (.cptr (cRow (idx x_57 x_53)))) (T := []) (some 183) rfl rfl (by repeat (first | exact trivial | refine ⟨fun q => by first | rfl | exact q | exact cda q | exact cdb q, ?_⟩)) (fun hg => sf_idxA (l := x_57) (i := x_53) rfl TT.slcA_22 lay_Row rfl rfl (c_59 hg) g3) nm0 ?_
    refine RQ.gd (v := .d (.agg (cRow (idx x_57 x_53)))) (T := []) (some 184) rfl rfl (by repeat (first | exact trivial | refine ⟨fun q => by first | rfl | exact q | exact cda q | exact cdb q, ?_⟩)) (fun hg => sf_ldC (d := .agg (cRow (idx x_57 x_53))) rfl TT.tyA_37 rfl (⟨by rw [lay_Row.len]; decide, congrArg D.agg (List.take_of_length_le (by rw [lay_Row.len]; decide))⟩) g3) nm0 ?_
    refine RQ.gd (v := pB (beqRow (x_49.1) (idx x_57 x_53))) (T := []) (some 185) rfl rfl (by repeat (first | exact trivial | refine ⟨fun q => by first | rfl | exact q | exact cda q | exact cdb q, ?_⟩)) (fun hg => sf_aggeq rfl rfl rfl rfl (eqr_Row (x_49.1) (idx x_57 x_53)) g3) nm0 ?_
    refine RQ.gp (some 186) rfl rfl rfl rfl rfl rfl (fun h => h) (fun _ _ => rfl) (fun hg hb => by first | (rw [hg, hb]; rfl) | (simp only [hg, hb]; rfl) | simp_all) ((!(x_49).2) || (beqRow (x_49.1) (idx x_57 x_53))) (bif_or _ _) ?_
    refine RQ.st (some 187) rfl rfl (sf_pickA rfl rfl rfl rfl (fun hb => by rw [hb]; rfl) (fun _ => rfl) ⟨⟨rfl, rfl⟩, ?_⟩)
    refine RQ.st (some 188) rfl rfl (sf_move (v := pB ((x_55 && (x_49.2 == (decide ((0 : Int) ≤ x_53)))) && ((!(x_49).2) || (beqRow (x_49.1) (idx x_57 x_53))))) rfl rfl ⟨⟨rfl, rfl⟩, ?_⟩)
    refine RQ.gd (v := pB (x_49.2)) (T := []) (some 189) rfl rfl (by repeat (first | exact trivial | refine ⟨fun q => by first | rfl | exact q | exact cda q | exact cdb q, ?_⟩)) (fun hg => sf_move (v := pB (x_49.2)) rfl rfl g3) nm0 ?_
    refine RQ.gd (v := pB (x_49.2)) (T := []) (some 190) rfl rfl (by repeat (first | exact trivial | refine ⟨fun q => by first | rfl | exact q | exact cda q | exact cdb q, ?_⟩)) (fun hg => sf_move (v := pB (x_49.2)) rfl rfl g3) nm0 ?_
    refine RQ.gd (v := .d (.agg (cRow (x_49.1)))) (T := [0]) (some 191) rfl rfl (by repeat (first | exact trivial | refine ⟨fun q => by first | rfl | exact q | exact cda q | exact cdb q, ?_⟩)) (fun hg => sf_ldV (v := .agg ((cRow (x_49.1)).map .d)) rfl TT.tyA_37 rfl rfl (ldv_dd (lay_Row.len _) (by decide)) ⟨⟨rfl, rfl, rfl⟩, rfl, imp_arr⟩) (fun _ i hi => by simp only [List.mem_singleton] at hi; subst hi; decide) ?_
    refine RQ.gd (v := .d (.agg (cRow (⟨(Arr.rep 32 (0 : UInt8)), 0, ([] : List UInt8)⟩ : Row)))) (T := []) (some 192) rfl rfl (by repeat (first | exact trivial | refine ⟨fun q => by first | rfl | exact q | exact cda q | exact cdb q, ?_⟩)) (fun hg => sf_bld (v := .agg ((cRow (⟨(Arr.rep 32 (0 : UInt8)), 0, ([] : List UInt8)⟩ : Row)).map .d)) rfl TT.bldA_37 (bld_Row_ ) ⟨⟨rfl, rfl, rfl⟩, rfl, imp_arr⟩) nm0 ?_
    refine RQ.gd (v := pB (beqRow (x_49.1) (⟨(Arr.rep 32 (0 : UInt8)), 0, ([] : List UInt8)⟩ : Row))) (T := []) (some 193) rfl rfl (by repeat (first | exact trivial | refine ⟨fun q => by first | rfl | exact q | exact cda q | exact cdb q, ?_⟩)) (fun hg => sf_aggeq rfl rfl rfl rfl (eqr_Row (x_49.1) (⟨(Arr.rep 32 (0 : UInt8)), 0, ([] : List UInt8)⟩ : Row)) g3) nm0 ?_
    refine RQ.gp (some 194) rfl rfl rfl rfl rfl rfl (fun h => h) (fun _ _ => rfl) (fun hg hb => by first | (rw [hg, hb]; rfl) | (simp only [hg, hb]; rfl) | simp_all) (x_49.2 || (beqRow (x_49.1) (⟨(Arr.rep 32 (0 : UInt8)), 0, ([] : List UInt8)⟩ : Row))) (bif_or _ _) ?_
    refine RQ.st (some 195) rfl rfl (sf_pickA rfl rfl rfl rfl (fun hb => by rw [hb]; rfl) (fun _ => rfl) ⟨⟨rfl, rfl⟩, ?_⟩)
    refine RQ.st (some 4) rfl rfl (sf_assign (v := pB (((x_55 && (x_49.2 == (decide ((0 : Int) ≤ x_53)))) && ((!(x_49).2) || (beqRow (x_49.1) (idx x_57 x_53)))) && (x_49.2 || (beqRow (x_49.1) (⟨(Arr.rep 32 (0 : UInt8)), 0, ([] : List UInt8)⟩ : Row))))) rfl rfl ⟨⟨rfl, rfl⟩, ?_⟩)
    refine RQ.nil (nrm ?_)
    refine QW.ret zL ?_
    obtain rfl := sG h
    exact Ends.one (.inr rfl) rfl (ResIs.tmp rfl) rfl rfl
end Go.Proofs.Ytoeppofkmcdknaa.K
