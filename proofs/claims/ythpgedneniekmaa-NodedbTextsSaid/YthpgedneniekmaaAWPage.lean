/- Package page: what it reckons. -/
import Derived.Test.YthpgedneniekmaaAWWide
import Derived.KernelRfl
namespace Go.Proofs.Ythpgedneniekmaa.K
open Go Go.RowKit
set_option linter.unusedSimpArgs false
set_option linter.unusedVariables false
set_option maxRecDepth 20000
set_option maxHeartbeats 4000000
namespace TT
theorem arrA_41 : arrA Try.prog 41 = some (32, 1, false) := by kernel_rfl
theorem bldA_44 : bldA Try.prog 44 = some ([Value.int IntKind.u8 0, Value.int IntKind.u8 0, Value.int IntKind.u8 0, Value.int IntKind.u8 0, Value.int IntKind.u8 0, Value.int IntKind.u8 0, Value.int IntKind.u8 0, Value.int IntKind.u8 0, Value.int IntKind.u8 0, Value.int IntKind.u8 0, Value.int IntKind.u8 0, Value.int IntKind.u8 0, Value.int IntKind.u8 0, Value.int IntKind.u8 0, Value.int IntKind.u8 0, Value.int IntKind.u8 0, Value.int IntKind.u8 0, Value.int IntKind.u8 0, Value.int IntKind.u8 0, Value.int IntKind.u8 0, Value.int IntKind.u8 0, Value.int IntKind.u8 0, Value.int IntKind.u8 0, Value.int IntKind.u8 0, Value.int IntKind.u8 0, Value.int IntKind.u8 0, Value.int IntKind.u8 0, Value.int IntKind.u8 0, Value.int IntKind.u8 0, Value.int IntKind.u8 0, Value.int IntKind.u8 0, Value.int IntKind.u8 0, Value.int IntKind.i64 0, Value.string ⟨#[]⟩], .inl [(0, 32), (32, 1), (33, 1)]) := by kernel_rfl
theorem enters_17 : entersB Try.prog 17 = true := by kernel_rfl
theorem enters_18 : entersB Try.prog 18 = true := by kernel_rfl
theorem enters_20 : entersB Try.prog 20 = true := by kernel_rfl
theorem enters_27 : entersB Try.prog 27 = true := by kernel_rfl
theorem enters_34 : entersB Try.prog 34 = true := by kernel_rfl
theorem enters_36 : entersB Try.prog 36 = true := by kernel_rfl
theorem enters_37 : entersB Try.prog 37 = true := by kernel_rfl
theorem enters_39 : entersB Try.prog 39 = true := by kernel_rfl
theorem enters_40 : entersB Try.prog 40 = true := by kernel_rfl
theorem enters_51 : entersB Try.prog 51 = true := by kernel_rfl
theorem enters_52 : entersB Try.prog 52 = true := by kernel_rfl
theorem enters_56 : entersB Try.prog 56 = true := by kernel_rfl
theorem enters_57 : entersB Try.prog 57 = true := by kernel_rfl
theorem enters_60 : entersB Try.prog 60 = true := by kernel_rfl
theorem enters_61 : entersB Try.prog 61 = true := by kernel_rfl
theorem enters_66 : entersB Try.prog 66 = true := by kernel_rfl
theorem enters_70 : entersB Try.prog 70 = true := by kernel_rfl
theorem enters_72 : entersB Try.prog 72 = true := by kernel_rfl
theorem enters_73 : entersB Try.prog 73 = true := by kernel_rfl
theorem enters_74 : entersB Try.prog 74 = true := by kernel_rfl
theorem enters_75 : entersB Try.prog 75 = true := by kernel_rfl
theorem enters_76 : entersB Try.prog 76 = true := by kernel_rfl
theorem enters_77 : entersB Try.prog 77 = true := by kernel_rfl
theorem fldA_44_0 : fldA Try.prog 44 0 = some (0, 32, true) := by kernel_rfl
theorem fldA_44_1 : fldA Try.prog 44 1 = some (32, 1, false) := by kernel_rfl
theorem fldA_44_2 : fldA Try.prog 44 2 = some (33, 1, false) := by kernel_rfl
theorem ifaceOK_9 : ifaceOK Try.prog 9 = true := by kernel_rfl
theorem res_17 : Try.f17.results.toList = [.tmp 2, .tmp 3] := rfl
theorem res_20 : Try.f20.results.toList = [.tmp 2] := rfl
theorem res_27 : Try.f27.results.toList = [.tmp 2] := rfl
theorem res_30 : Try.f30.results.toList = [.tmp 4, .tmp 5] := rfl
theorem res_31 : Try.f31.results.toList = [.tmp 2, .tmp 3] := rfl
theorem res_38 : Try.f38.results.toList = [.tmp 2, .tmp 3] := rfl
theorem res_39 : Try.f39.results.toList = [.tmp 4] := rfl
theorem res_40 : Try.f40.results.toList = [.tmp 4] := rfl
theorem res_44 : Try.f44.results.toList = [.tmp 4] := rfl
theorem res_51 : Try.f51.results.toList = [.tmp 2] := rfl
theorem res_52 : Try.f52.results.toList = [.tmp 4] := rfl
theorem res_56 : Try.f56.results.toList = [.tmp 6, .tmp 7] := rfl
theorem res_57 : Try.f57.results.toList = [.tmp 2] := rfl
theorem res_60 : Try.f60.results.toList = [.cell 1 44] := rfl
theorem res_61 : Try.f61.results.toList = [.tmp 4] := rfl
theorem res_66 : Try.f66.results.toList = [.tmp 4] := rfl
theorem res_70 : Try.f70.results.toList = [.tmp 6, .tmp 7] := rfl
theorem res_72 : Try.f72.results.toList = [.tmp 2] := rfl
theorem res_73 : Try.f73.results.toList = [.tmp 4] := rfl
theorem res_74 : Try.f74.results.toList = [.tmp 4] := rfl
theorem res_75 : Try.f75.results.toList = [.tmp 4] := rfl
theorem res_76 : Try.f76.results.toList = [.tmp 2] := rfl
theorem res_77 : Try.f77.results.toList = [.tmp 2] := rfl
theorem rowA_24 : rowA Try.prog 24 = some (1, 24) := by kernel_rfl
theorem rowA_38 : rowA Try.prog 38 = some (34, 56) := by kernel_rfl
theorem rowA_52 : rowA Try.prog 52 = some (1, 8) := by kernel_rfl
theorem rowA_56 : rowA Try.prog 56 = some (1, 16) := by kernel_rfl
theorem slcA_24 : slcA Try.prog 24 = some (1, 24, false) := by kernel_rfl
theorem slcA_38 : slcA Try.prog 38 = some (34, 56, true) := by kernel_rfl
theorem slcA_52 : slcA Try.prog 52 = some (1, 8, false) := by kernel_rfl
theorem slcA_78 : slcA Try.prog 78 = some (1, 1, false) := by kernel_rfl
theorem tyA_3 : tyA Try.prog 3 = some (false, 1) := by kernel_rfl
theorem tyA_38 : tyA Try.prog 38 = some (false, 1) := by kernel_rfl
theorem tyA_41 : tyA Try.prog 41 = some (true, 32) := by kernel_rfl
theorem tyA_44 : tyA Try.prog 44 = some (true, 34) := by kernel_rfl
theorem tyA_80 : tyA Try.prog 80 = some (false, 1) := by kernel_rfl
theorem under_107 : Program.underlying Try.prog 107 = some (.int .u64) := by kernel_rfl
theorem under_24 : Program.underlying Try.prog 24 = some (.slice 38) := by kernel_rfl
theorem under_38 : Program.underlying Try.prog 38 = some (.slice 44) := by kernel_rfl
theorem under_41 : Program.underlying Try.prog 41 = some (.array 32 5) := by kernel_rfl
theorem under_52 : Program.underlying Try.prog 52 = some (.slice 3) := by kernel_rfl
theorem zeroA_44 : zeroA Try.prog 44 = some [Value.int IntKind.u8 0, Value.int IntKind.u8 0, Value.int IntKind.u8 0, Value.int IntKind.u8 0, Value.int IntKind.u8 0, Value.int IntKind.u8 0, Value.int IntKind.u8 0, Value.int IntKind.u8 0, Value.int IntKind.u8 0, Value.int IntKind.u8 0, Value.int IntKind.u8 0, Value.int IntKind.u8 0, Value.int IntKind.u8 0, Value.int IntKind.u8 0, Value.int IntKind.u8 0, Value.int IntKind.u8 0, Value.int IntKind.u8 0, Value.int IntKind.u8 0, Value.int IntKind.u8 0, Value.int IntKind.u8 0, Value.int IntKind.u8 0, Value.int IntKind.u8 0, Value.int IntKind.u8 0, Value.int IntKind.u8 0, Value.int IntKind.u8 0, Value.int IntKind.u8 0, Value.int IntKind.u8 0, Value.int IntKind.u8 0, Value.int IntKind.u8 0, Value.int IntKind.u8 0, Value.int IntKind.u8 0, Value.int IntKind.u8 0, Value.int IntKind.i64 0, Value.string ⟨#[]⟩] := by kernel_rfl
theorem zeroA_80 : zeroA Try.prog 80 = some [Value.pointer none] := by kernel_rfl
end TT
theorem bld_Row_0_1 (v0 : (Arr 32 UInt8)) (v1 : Int) : (buildP (some ([Value.int IntKind.u8 0, Value.int IntKind.u8 0, Value.int IntKind.u8 0, Value.int IntKind.u8 0, Value.int IntKind.u8 0, Value.int IntKind.u8 0, Value.int IntKind.u8 0, Value.int IntKind.u8 0, Value.int IntKind.u8 0, Value.int IntKind.u8 0, Value.int IntKind.u8 0, Value.int IntKind.u8 0, Value.int IntKind.u8 0, Value.int IntKind.u8 0, Value.int IntKind.u8 0, Value.int IntKind.u8 0, Value.int IntKind.u8 0, Value.int IntKind.u8 0, Value.int IntKind.u8 0, Value.int IntKind.u8 0, Value.int IntKind.u8 0, Value.int IntKind.u8 0, Value.int IntKind.u8 0, Value.int IntKind.u8 0, Value.int IntKind.u8 0, Value.int IntKind.u8 0, Value.int IntKind.u8 0, Value.int IntKind.u8 0, Value.int IntKind.u8 0, Value.int IntKind.u8 0, Value.int IntKind.u8 0, Value.int IntKind.u8 0, Value.int IntKind.i64 0, Value.string ⟨#[]⟩], .inl [(0, 32), (32, 1), (33, 1)])) [(0, .d (.agg (v0.1.map byteD))), (1, pI v1)]).2 ∧ (buildP (some ([Value.int IntKind.u8 0, Value.int IntKind.u8 0, Value.int IntKind.u8 0, Value.int IntKind.u8 0, Value.int IntKind.u8 0, Value.int IntKind.u8 0, Value.int IntKind.u8 0, Value.int IntKind.u8 0, Value.int IntKind.u8 0, Value.int IntKind.u8 0, Value.int IntKind.u8 0, Value.int IntKind.u8 0, Value.int IntKind.u8 0, Value.int IntKind.u8 0, Value.int IntKind.u8 0, Value.int IntKind.u8 0, Value.int IntKind.u8 0, Value.int IntKind.u8 0, Value.int IntKind.u8 0, Value.int IntKind.u8 0, Value.int IntKind.u8 0, Value.int IntKind.u8 0, Value.int IntKind.u8 0, Value.int IntKind.u8 0, Value.int IntKind.u8 0, Value.int IntKind.u8 0, Value.int IntKind.u8 0, Value.int IntKind.u8 0, Value.int IntKind.u8 0, Value.int IntKind.u8 0, Value.int IntKind.u8 0, Value.int IntKind.u8 0, Value.int IntKind.i64 0, Value.string ⟨#[]⟩], .inl [(0, 32), (32, 1), (33, 1)])) [(0, .d (.agg (v0.1.map byteD))), (1, pI v1)]).1 = .agg ((cRow (⟨v0, v1, ([] : (List UInt8))⟩ : Row)).map .d) :=
  build_of rfl (show (fillP _ ((cRow ({ fSum := (Arr.rep 32 (0 : UInt8)), fEpoch := (0 : Int), fBody := ([] : (List UInt8)) } : Row)).map PV.d) _).2 ∧ (fillP _ ((cRow ({ fSum := (Arr.rep 32 (0 : UInt8)), fEpoch := (0 : Int), fBody := ([] : (List UInt8)) } : Row)).map PV.d) _).1 = _ from (fill_step rfl rfl (show ((v0.1.map byteD).map PV.d).length = 32 by rw [List.length_map, List.length_map, v0.2]) (by rw [List.length_map, lay_Row.len]; decide) (spl_Row_0 _ v0) (fill_step rfl rfl rfl (by rw [List.length_map, lay_Row.len]; decide) (spl_Row_1 _ v1) fill_nil)))
noncomputable def g_slices_Grow_api_Row_api_Row0  (v1 : Int) : Option (List Row) :=
    (bif (decide (v1 < (0 : Int))) then
    none
    else
    gO (inI ((0 : Int) - (0 : Int))) (
    gO (inI (v1 - ((0 : Int) - (0 : Int)))) (
    (bif (decide ((0 : Int) < (v1 - ((0 : Int) - (0 : Int))))) then
    gO (0 < (v1 - ((0 : Int) - (0 : Int))) ∧ (v1 - ((0 : Int) - (0 : Int))).toNat * 56 ≤ 140737488355328) (
    some ([] : (List Row)))
    else
    some ([] : (List Row))))))
theorem sim_slices_Grow_api_Row_api_Row0  (v1 : Int) (r : (List Row)) (h : g_slices_Grow_api_Row_api_Row0 v1 = some r) : Spec Try.prog 40 [.full (([] : (List Row)).map eRow), pI v1] (tabH []) 0 (postX (.ret (.own 0 (r.map eRow))) (tabH [.spare 34 r.length]) 1) := by
  refine Spec.of_bodyS Try.func40 rfl (by simp [Try.ntmps40]) bL ?_
  rw [Try.ntmps40, TT.res_40]
  refine QW.view (s' := ⟨tab [(0, .full (([] : (List Row)).map eRow)), (1, pI v1)], tabH [], 0, []⟩) (View.initP zL (by rfl)) zL ?_
  unfold g_slices_Grow_api_Row_api_Row0 at h
  refine sR ?_
  refine xz 4 (.full (([] : (List Row)).map eRow)) ?_
  refine QW.seq ?_
  refine sR ?_
  refine xm 5 (pI v1) ?_
  refine xs 6 rfl (sf_lss (a := v1) (b := (0 : Int)) rfl rfl rfl ?_)
  refine XK.nz ?_
  refine QW.cond (t := (decide (v1 < (0 : Int)))) rfl zL (fun hb_1 => ?_) (fun hb_1 => ?_)
  · replace h := bT h hb_1
    refine rG ?_
    refine xs 7 rfl (sf_iface (y := .val (sV ([99, 97, 110, 110, 111, 116, 32, 98, 101, 32, 110, 101, 103, 97, 116, 105, 118, 101] : List UInt8))) rfl rfl TT.ifaceOK_9 ?_)
    refine XK.panic rfl rfl rfl (thP ?_)
    cases h
  · replace h := bF h hb_1
    refine QW.skip zL (nrm ?_)
    refine QW.seq ?_
    refine sR ?_
    refine xm 8 (pI v1) ?_
    refine xm 9 (.full (([] : (List Row)).map eRow)) ?_
    refine XK.so (some 10) rfl rfl (sf_capF rfl TT.under_38 rfl ?_)
    refine xm 11 (.full (([] : (List Row)).map eRow)) ?_
    refine xs 12 rfl (sf_lenL (en := eRow) (l := ([] : (List Row))) rfl TT.under_38 rfl ?_)
    obtain ⟨c_2, h⟩ := gO_get h
    refine xs 13 rfl (sf_sub (a := (0 : Int)) (b := (0 : Int)) rfl rfl rfl c_2 ?_)
    obtain ⟨c_3, h⟩ := gO_get h
    refine xs 14 rfl (sf_sub (a := v1) (b := ((0 : Int) - (0 : Int))) rfl rfl rfl c_3 ?_)
    refine xz 1 (pI (v1 - ((0 : Int) - (0 : Int)))) ?_
    refine sR ?_
    refine xm 15 (pI (v1 - ((0 : Int) - (0 : Int)))) ?_
    refine xs 16 rfl (sf_gtr (a := (v1 - ((0 : Int) - (0 : Int)))) (b := (0 : Int)) rfl rfl rfl ?_)
    refine XK.nz ?_
    refine QW.cond (t := (decide ((0 : Int) < (v1 - ((0 : Int) - (0 : Int)))))) rfl zL (fun hb_4 => ?_) (fun hb_4 => ?_)
    · replace h := bT h hb_4
      refine rG ?_
      refine xm 17 (.full (([] : (List Row)).map eRow)) ?_
      refine xm 18 (.full (([] : (List Row)).map eRow)) ?_
      refine XK.so (some 19) rfl rfl (sf_capF rfl TT.under_38 rfl ?_)
      refine XK.so (some 20) rfl rfl (so_sub00 rfl TT.slcA_38 rfl rfl ?_)
      refine xm 21 (pI (v1 - ((0 : Int) - (0 : Int)))) ?_
      obtain ⟨c_5, h⟩ := gO_get h
      refine XK.so (some 22) rfl rfl (so_appZ (n := (v1 - ((0 : Int) - (0 : Int)))) rfl TT.rowA_38 TT.under_3 rfl rfl c_5 (by decide) ?_)
      refine xm 23 (.full (([] : (List Row)).map eRow)) ?_
      refine xs 24 rfl (sf_lenL (en := eRow) (l := ([] : (List Row))) rfl TT.under_38 rfl ?_)
      refine XK.so (some 25) rfl rfl (so_room0 rfl TT.slcA_38 rfl rfl ?_)
      refine xz 0 (.own 0 (([] : (List Row)).map eRow)) ?_
      refine sR ?_
      refine xm 26 (.own 0 (([] : (List Row)).map eRow)) ?_
      refine xz 4 (.own 0 (([] : (List Row)).map eRow)) ?_
      refine QW.ret zL ?_
      obtain rfl := sO h
      exact EndsS.one (s' := ⟨tab [(4, .own 0 (([] : (List Row)).map eRow))], tabH [.spare 34 ([] : (List Row)).length], 1, []⟩) (.inr rfl) (View.mk 1 [0] _ _ _ rfl rfl (by decide) (iC trivial) (And.intro rfl trivial) rfl zL rfl) rfl bL (fun i hi => tabH_app [.spare 34 ([] : (List Row)).length] [] i hi) rfl (by simp [HO.idsLts, HO.idsLt, PV.idsLts, PV.idsLt, idsLts_d, rowC]) (ResIs.tmp rfl) (by simp [PV.idsLts, PV.idsLt, idsLts_d])
    · replace h := bF h hb_4
      refine QW.skip zL (nrm ?_)
      refine sR ?_
      refine xm 26 (.full (([] : (List Row)).map eRow)) ?_
      refine xz 4 (.full (([] : (List Row)).map eRow)) ?_
      refine QW.ret zL ?_
      obtain rfl := sO h
      exact EndsS.one (s' := ⟨tab [(4, .own 0 (([] : (List Row)).map eRow))], tabH [.spare 34 ([] : (List Row)).length], 1, []⟩) (.inr rfl) (View.trans (View.buf 4 34 rfl zL) (View.mk 1 [0] _ _ _ rfl rfl (by decide) (iC trivial) (And.intro rfl trivial) rfl zL rfl)) rfl bL (fun i hi => tabH_app [.spare 34 ([] : (List Row)).length] [] i hi) rfl (by simp [HO.idsLts, HO.idsLt, PV.idsLts, PV.idsLt, idsLts_d, rowC]) (ResIs.tmp rfl) (by simp [PV.idsLts, PV.idsLt, idsLts_d])
inductive C_slices_Concat_api_Row_api_Row where
  | S
  | L1 (v3 : Int) (v11 : Int)
  | L2 (v6_2 : (List Row)) (v27 : Int)
noncomputable def step_slices_Concat_api_Row_api_Row (v0 : (List (List Row))) : C_slices_Concat_api_Row_api_Row → Option (C_slices_Concat_api_Row_api_Row ⊕ (List Row))
  | .S =>
    some (.inl (.L1 (0) (0)))
  | .L1 v3 v11 =>
    (bif (decide (v11 < (v0.length : Int))) then
    gO (0 ≤ v11 ∧ v11 < (v0.length : Int)) (
    gO (inI (v3 + ((idx v0 v11).length : Int))) (
    (bif (decide ((v3 + ((idx v0 v11).length : Int)) < (0 : Int))) then
    none
    else
    gO (inI (v11 + (1 : Int))) (
    some (.inl (.L1 (v3 + ((idx v0 v11).length : Int)) (v11 + (1 : Int))))))))
    else
    ((g_slices_Grow_api_Row_api_Row0 v3).bind fun (q_9 : (List Row)) =>
    some (.inl (.L2 q_9 (0)))))
  | .L2 v6_2 v27 =>
    (bif (decide (v27 < (v0.length : Int))) then
    gO (0 ≤ v27 ∧ v27 < (v0.length : Int)) (
    gO ((v6_2.length + (idx v0 v27).length) * 56 ≤ 140737488355328) (
    gO (inI (v27 + (1 : Int))) (
    some (.inl (.L2 (v6_2 ++ (idx v0 v27)) (v27 + (1 : Int)))))))
    else
    some (.inr v6_2))
noncomputable def g_slices_Concat_api_Row_api_Row (v0 : (List (List Row))) : Option (List Row) := theC (step_slices_Concat_api_Row_api_Row v0) .S
theorem sim_slices_Concat_api_Row_api_Row (v0 : (List (List Row))) (r : (List Row)) (h : g_slices_Concat_api_Row_api_Row v0 = some r) : Fun Try.prog 20 [.slice (v0.map (eL eRow))] (.slice (r.map eRow)) := by
  refine Fun.of_bodyQ Try.func20 rfl (by simp [Try.ntmps20]) ?_
  rw [Try.ntmps20, TT.res_20]
  refine QW.view (s' := ⟨tab [(0, .d (.slice (v0.map (eL eRow))))], tabH [], 0, []⟩) (View.init (by rfl)) zL ?_
  replace h := theC_get h
  obtain ⟨_, h⟩ := h
  obtain ⟨k_0, rfl, h9⟩ := run_succ h; replace h := h9; clear h9; rw [step_slices_Concat_api_Row_api_Row] at h
  refine sR ?_
  refine xz 2 (.full (([] : (List Row)).map eRow)) ?_
  refine sR ?_
  refine xz 3 (pI (0)) ?_
  refine QW.seq ?_
  refine sR ?_
  refine xm 9 (.d (.slice (v0.map (eL eRow)))) ?_
  refine xs 10 rfl (sf_lenL (en := (eL eRow)) (l := v0) rfl TT.under_24 rfl ?_)
  refine xm 11 (pI (0)) ?_
  refine XK.nz ?_
  refine QW.block ?_
  refine QW.loop (fun k σ => ∃ v3 : Int, ∃ v11 : Int, k ≤ k_0 ∧ run (step_slices_Concat_api_Row_api_Row v0) k (.L1 v3 v11) = some r ∧ σ = ⟨tab [(0, .d (.slice (v0.map (eL eRow)))), (3, pI v3), (9, .d (.slice (v0.map (eL eRow)))), (10, pI (v0.length : Int)), (11, pI v11)], tabH [], 0, []⟩) k_0 zL ⟨⟨tab [(0, .d (.slice (v0.map (eL eRow)))), (3, pI (0)), (9, .d (.slice (v0.map (eL eRow)))), (10, pI (v0.length : Int)), (11, pI (0))], tabH [], 0, []⟩, View.mk 0 [] _ _ _ rfl rfl (by decide) (iC (iC (iC (iC (iC trivial))))) trivial rfl zL rfl, 0, 0, Nat.le_refl _, jG h, rfl⟩ ?_
  rintro k_1s _ ⟨v3, v11, k_1h, h, rfl⟩
  obtain ⟨k_1, rfl, h9⟩ := run_succ h; replace h := h9; clear h9; rw [step_slices_Concat_api_Row_api_Row] at h
  refine sR ?_
  refine xs 12 rfl (sf_lss (a := v11) (b := (v0.length : Int)) rfl rfl rfl ?_)
  refine XK.nz ?_
  refine QW.seq ?_
  refine QW.cond (t := (decide (v11 < (v0.length : Int)))) rfl zL (fun hb_2 => ?_) (fun hb_2 => ?_)
  · replace h := bGT h hb_2
    refine QW.skip zL (nrm ?_)
    refine QW.seq ?_
    refine QW.block ?_
    refine sR ?_
    obtain ⟨c_3, h⟩ := gG h
    refine xs 13 rfl (sf_idxA (l := v0) (i := v11) rfl TT.slcA_24 lay_L rfl rfl c_3 ?_)
    refine xs 14 rfl (sf_ldC (d := .slice ((idx v0 v11).map eRow)) rfl TT.tyA_38 rfl (LdC.one) ?_)
    refine xz 5 (.d (.slice ((idx v0 v11).map eRow))) ?_
    refine sR ?_
    refine xm 15 (pI v3) ?_
    refine xm 16 (.d (.slice ((idx v0 v11).map eRow))) ?_
    refine xs 17 rfl (sf_lenL (en := eRow) (l := (idx v0 v11)) rfl TT.under_38 rfl ?_)
    obtain ⟨c_4, h⟩ := gG h
    refine xs 18 rfl (sf_add (a := v3) (b := ((idx v0 v11).length : Int)) rfl rfl rfl c_4 ?_)
    refine xz 3 (pI (v3 + ((idx v0 v11).length : Int))) ?_
    refine sR ?_
    refine xm 19 (pI (v3 + ((idx v0 v11).length : Int))) ?_
    refine xs 20 rfl (sf_lss (a := (v3 + ((idx v0 v11).length : Int))) (b := (0 : Int)) rfl rfl rfl ?_)
    refine XK.nz ?_
    refine QW.cond (t := (decide ((v3 + ((idx v0 v11).length : Int)) < (0 : Int)))) rfl zL (fun hb_5 => ?_) (fun hb_5 => ?_)
    · replace h := bGT h hb_5
      refine rG ?_
      refine xs 21 rfl (sf_iface (y := .val (sV ([108, 101, 110, 32, 111, 117, 116, 32, 111, 102, 32, 114, 97, 110, 103, 101] : List UInt8))) rfl rfl TT.ifaceOK_9 ?_)
      refine XK.panic rfl rfl rfl (blP (thP (thP (blP (thP ?_)))))
      cases h
    · replace h := bGF h hb_5
      refine QW.skip zL (blN (nrm ?_))
      refine rG ?_
      obtain ⟨c_6, h⟩ := gG h
      refine xs 22 rfl (sf_add (a := v11) (b := (1 : Int)) rfl rfl rfl c_6 ?_)
      refine xm 11 (pI (v11 + (1 : Int))) ?_
      refine XK.nz ?_
      exact ⟨k_1, by omega, ⟨tab [(0, .d (.slice (v0.map (eL eRow)))), (3, pI (v3 + ((idx v0 v11).length : Int))), (9, .d (.slice (v0.map (eL eRow)))), (10, pI (v0.length : Int)), (11, pI (v11 + (1 : Int)))], tabH [], 0, []⟩, View.mk 0 [] _ _ _ rfl rfl (by decide) (iC (iC (iC (iC (iC trivial))))) trivial rfl zL rfl, (v3 + ((idx v0 v11).length : Int)), (v11 + (1 : Int)), by omega, jG h, rfl⟩
  · replace h := bGF h hb_2
    refine QW.exit zL (thX (thX (exE (nrm ?_))))
    refine sR ?_
    refine xm 23 (pI v3) ?_
    obtain ⟨q_9, hx_8, h⟩ := bG h
    refine XK.fr (p := .own 0 (q_9.map eRow)) (H2 := putH _ 0 (some (.spare 34 q_9.length))) (nx2 := 1) (some 24) rfl rfl (xcall_frame [] rfl rfl TT.enters_40 (sim_slices_Grow_api_Row_api_Row0 v3 _ hx_8) rfl rfl (by decide) trivial bL) rfl rfl rfl ?_
    refine xz 6 (.own 0 (q_9.map eRow)) ?_
    refine QW.seq ?_
    refine sR ?_
    refine xm 25 (.d (.slice (v0.map (eL eRow)))) ?_
    refine xs 26 rfl (sf_lenL (en := (eL eRow)) (l := v0) rfl TT.under_24 rfl ?_)
    refine xm 27 (pI (0)) ?_
    refine XK.nz ?_
    refine QW.block ?_
    refine QW.loop (fun k σ => ∃ v6_2 : (List Row), ∃ v27 : Int, k ≤ k_1 ∧ run (step_slices_Concat_api_Row_api_Row v0) k (.L2 v6_2 v27) = some r ∧ σ = ⟨tab [(6, .own 0 (v6_2.map eRow)), (25, .d (.slice (v0.map (eL eRow)))), (26, pI (v0.length : Int)), (27, pI v27)], tabH [.spare 34 v6_2.length], 1, []⟩) k_1 zL ⟨⟨tab [(6, .own 0 (q_9.map eRow)), (25, .d (.slice (v0.map (eL eRow)))), (26, pI (v0.length : Int)), (27, pI (0))], tabH [.spare 34 q_9.length], 1, []⟩, View.mk 1 [0] _ _ _ rfl rfl (by decide) (iC (iC (iC (iC trivial)))) (And.intro rfl trivial) rfl zL rfl, q_9, 0, Nat.le_refl _, jG h, rfl⟩ ?_
    rintro k_10s _ ⟨v6_2, v27, k_10h, h, rfl⟩
    obtain ⟨k_10, rfl, h9⟩ := run_succ h; replace h := h9; clear h9; rw [step_slices_Concat_api_Row_api_Row] at h
    refine sR ?_
    refine xs 28 rfl (sf_lss (a := v27) (b := (v0.length : Int)) rfl rfl rfl ?_)
    refine XK.nz ?_
    refine QW.seq ?_
    refine QW.cond (t := (decide (v27 < (v0.length : Int)))) rfl zL (fun hb_11 => ?_) (fun hb_11 => ?_)
    · replace h := bGT h hb_11
      refine QW.skip zL (nrm ?_)
      refine QW.seq ?_
      refine QW.block ?_
      refine sR ?_
      obtain ⟨c_12, h⟩ := gG h
      refine xs 29 rfl (sf_idxA (l := v0) (i := v27) rfl TT.slcA_24 lay_L rfl rfl c_12 ?_)
      refine xs 30 rfl (sf_ldC (d := .slice ((idx v0 v27).map eRow)) rfl TT.tyA_38 rfl (LdC.one) ?_)
      refine xz 8 (.d (.slice ((idx v0 v27).map eRow))) ?_
      refine rG ?_
      refine xm 31 (.own 0 (v6_2.map eRow)) ?_
      refine xm 32 (.d (.slice ((idx v0 v27).map eRow))) ?_
      obtain ⟨c_13, h⟩ := gG h
      refine xs 33 rfl (sf_appO (en := eRow) (l := v6_2) (l2 := (idx v0 v27)) rfl TT.rowA_38 TT.under_38 rfl lay_Row rfl rfl rfl c_13 (by decide) ?_)
      refine xa 6 (.own 1 ((v6_2 ++ (idx v0 v27)).map eRow)) ?_
      refine XK.nil (blN (nrm ?_))
      refine rG ?_
      obtain ⟨c_14, h⟩ := gG h
      refine xs 34 rfl (sf_add (a := v27) (b := (1 : Int)) rfl rfl rfl c_14 ?_)
      refine xm 27 (pI (v27 + (1 : Int))) ?_
      refine XK.nz ?_
      exact ⟨k_10, by omega, ⟨tab [(6, .own 0 ((v6_2 ++ (idx v0 v27)).map eRow)), (25, .d (.slice (v0.map (eL eRow)))), (26, pI (v0.length : Int)), (27, pI (v27 + (1 : Int)))], tabH [.spare 34 (v6_2 ++ (idx v0 v27)).length], 1, []⟩, View.mk 1 [1] _ _ _ rfl rfl (by decide) (iC (iC (iC (iC trivial)))) (And.intro rfl trivial) rfl zL rfl, (v6_2 ++ (idx v0 v27)), (v27 + (1 : Int)), by omega, jG h, rfl⟩
    · replace h := bGF h hb_11
      refine QW.exit zL (thX (thX (exE (nrm ?_))))
      refine sR ?_
      refine xm 35 (.own 0 (v6_2.map eRow)) ?_
      refine xz 2 (.own 0 (v6_2.map eRow)) ?_
      refine QW.ret zL ?_
      obtain rfl := sG h
      exact Ends.one (.inr rfl) rfl (ResIs.tmp rfl) rfl rfl
inductive C_slices_IndexFunc_api_Row_api_Row where
  | S
  | L1 (v8 : Int)
noncomputable def step_slices_IndexFunc_api_Row_api_Row (v0 : (List Row)) (f1 : Row → Option Bool) : C_slices_IndexFunc_api_Row_api_Row → Option (C_slices_IndexFunc_api_Row_api_Row ⊕ Int)
  | .S =>
    some (.inl (.L1 (0)))
  | .L1 v8 =>
    (bif (decide (v8 < (v0.length : Int))) then
    gO (0 ≤ v8 ∧ v8 < (v0.length : Int)) (
    ((f1 (idx v0 v8)).bind fun (x_4 : Bool) =>
    (bif x_4 then
    some (.inr v8)
    else
    gO (inI (v8 + (1 : Int))) (
    some (.inl (.L1 (v8 + (1 : Int))))))))
    else
    some (.inr (-1)))
noncomputable def g_slices_IndexFunc_api_Row_api_Row (v0 : (List Row)) (f1 : Row → Option Bool) : Option Int := theC (step_slices_IndexFunc_api_Row_api_Row v0 f1) .S
theorem sim_slices_IndexFunc_api_Row_api_Row (v0 : (List Row)) (f1 : Row → Option Bool) (fn1 : Nat) (cp1 : List D) (he1 : entersB Try.prog fn1 = true) (hf1 : ∀ y0 r, f1 y0 = some r → Fun Try.prog fn1 ([.agg (cRow y0)] ++ cp1) (.val (.bool r))) (r : Int) (h : g_slices_IndexFunc_api_Row_api_Row v0 f1 = some r) : Fun Try.prog 66 [.slice (v0.map eRow), .clo fn1 cp1] (.val (.int .i64 r)) := by
  refine Fun.of_bodyQ Try.func66 rfl (by simp [Try.ntmps66]) ?_
  rw [Try.ntmps66, TT.res_66]
  refine QW.view (s' := ⟨tab [(0, .d (.slice (v0.map eRow))), (1, .d (.clo fn1 cp1))], tabH [], 0, []⟩) (View.init (by rfl)) zL ?_
  replace h := theC_get h
  obtain ⟨_, h⟩ := h
  obtain ⟨k_0, rfl, h9⟩ := run_succ h; replace h := h9; clear h9; rw [step_slices_IndexFunc_api_Row_api_Row] at h
  refine sR ?_
  refine xz 4 (pI (0)) ?_
  refine QW.seq ?_
  refine sR ?_
  refine xm 6 (.d (.slice (v0.map eRow))) ?_
  refine xs 7 rfl (sf_lenL (en := eRow) (l := v0) rfl TT.under_38 rfl ?_)
  refine xm 8 (pI (0)) ?_
  refine XK.nz ?_
  refine QW.block ?_
  refine QW.loop (fun k σ => ∃ v8 : Int, k ≤ k_0 ∧ run (step_slices_IndexFunc_api_Row_api_Row v0 f1) k (.L1 v8) = some r ∧ σ = ⟨tab [(0, .d (.slice (v0.map eRow))), (1, .d (.clo fn1 cp1)), (7, pI (v0.length : Int)), (8, pI v8)], tabH [], 0, []⟩) k_0 zL ⟨⟨tab [(0, .d (.slice (v0.map eRow))), (1, .d (.clo fn1 cp1)), (7, pI (v0.length : Int)), (8, pI (0))], tabH [], 0, []⟩, View.mk 0 [] _ _ _ rfl rfl (by decide) (iC (iC (iC (iC trivial)))) trivial rfl zL rfl, 0, Nat.le_refl _, jG h, rfl⟩ ?_
  rintro k_1s _ ⟨v8, k_1h, h, rfl⟩
  obtain ⟨k_1, rfl, h9⟩ := run_succ h; replace h := h9; clear h9; rw [step_slices_IndexFunc_api_Row_api_Row] at h
  refine sR ?_
  refine xs 9 rfl (sf_lss (a := v8) (b := (v0.length : Int)) rfl rfl rfl ?_)
  refine XK.nz ?_
  refine QW.seq ?_
  refine QW.cond (t := (decide (v8 < (v0.length : Int)))) rfl zL (fun hb_2 => ?_) (fun hb_2 => ?_)
  · replace h := bGT h hb_2
    refine QW.skip zL (nrm ?_)
    refine QW.seq ?_
    refine QW.block ?_
    refine sR ?_
    refine xm 10 (pI v8) ?_
    refine xz 5 (pI v8) ?_
    refine sR ?_
    refine xm 11 (.d (.clo fn1 cp1)) ?_
    refine xm 12 (.d (.slice (v0.map eRow))) ?_
    refine xm 13 (pI v8) ?_
    obtain ⟨c_3, h⟩ := gG h
    refine xs 14 rfl (sf_idxA (l := v0) (i := v8) rfl TT.slcA_38 lay_Row rfl rfl c_3 ?_)
    refine xs 15 rfl (sf_ldC (d := .agg (cRow (idx v0 v8))) rfl TT.tyA_44 rfl (⟨by rw [lay_Row.len]; decide, congrArg D.agg (List.take_of_length_le (by rw [lay_Row.len]; decide))⟩) ?_)
    obtain ⟨x_4, hx_5, h⟩ := bG h
    refine xs 16 rfl (sf_clo rfl rfl rfl he1 rfl (hf1 (idx v0 v8) _ hx_5) ?_)
    refine XK.nz ?_
    refine QW.cond (t := x_4) rfl zL (fun hb_6 => ?_) (fun hb_6 => ?_)
    · replace h := bGT h hb_6
      refine sR ?_
      refine xm 17 (pI v8) ?_
      refine xz 4 (pI v8) ?_
      refine QW.ret zL (blR (thR (thR (blR (thR ?_)))))
      obtain rfl := sG h
      exact Ends.one (.inr rfl) rfl (ResIs.tmp rfl) rfl rfl
    · replace h := bGF h hb_6
      refine QW.skip zL (blN (nrm ?_))
      refine rG ?_
      obtain ⟨c_7, h⟩ := gG h
      refine xs 18 rfl (sf_add (a := v8) (b := (1 : Int)) rfl rfl rfl c_7 ?_)
      refine xm 8 (pI (v8 + (1 : Int))) ?_
      refine XK.nz ?_
      exact ⟨k_1, by omega, ⟨tab [(0, .d (.slice (v0.map eRow))), (1, .d (.clo fn1 cp1)), (7, pI (v0.length : Int)), (8, pI (v8 + (1 : Int)))], tabH [], 0, []⟩, View.mk 0 [] _ _ _ rfl rfl (by decide) (iC (iC (iC (iC trivial)))) trivial rfl zL rfl, (v8 + (1 : Int)), by omega, jG h, rfl⟩
  · replace h := bGF h hb_2
    refine QW.exit zL (thX (thX (exE (nrm ?_))))
    refine sR ?_
    refine xz 4 (pI (-1)) ?_
    refine QW.ret zL ?_
    obtain rfl := sG h
    exact Ends.one (.inr rfl) rfl (ResIs.tmp rfl) rfl rfl
noncomputable def g_page_Check_1 (r0 : Row) : Option Bool :=
    some (((decide ((r0.fEpoch) < (0 : Int))) || (decide ((1048576 : Int) < (r0.fEpoch)))) || (decide ((70000 : Int) < ((r0.fBody).length : Int))))
theorem sim_page_Check_1 (r0 : Row) (r : Bool) (h : g_page_Check_1 r0 = some r) : Fun Try.prog 51 [.agg (cRow r0)] (.val (.bool r)) := by
  refine Fun.of_bodyQ Try.func51 rfl (by simp [Try.ntmps51]) ?_
  rw [Try.ntmps51, TT.res_51]
  refine QW.view (s' := ⟨tab [(0, .d (.agg (cRow r0)))], tabH [], 0, []⟩) (View.init (by rfl)) zL ?_
  unfold g_page_Check_1 at h
  refine sR ?_
  refine XK.fz (some 1) rfl rfl (sf_boxF (ds := cRow r0) rfl rfl rfl rfl toDs_map ?_)
  refine xz 2 (pB false) ?_
  refine sR ?_
  refine xs 3 rfl (sf_fldC rfl TT.fldA_44_1 (by decide) rfl ?_)
  refine xs 4 rfl (sf_ldC (d := .val (.int .i64 (r0.fEpoch))) rfl TT.tyA_3 rfl (ldc_Row_1 _) ?_)
  refine xs 5 rfl (sf_lss (a := (r0.fEpoch)) (b := (0 : Int)) rfl rfl rfl ?_)
  refine xm 6 (pB (decide ((r0.fEpoch) < (0 : Int)))) ?_
  refine xg 7 (.d (.cptr ((cRow r0).drop 32))) rfl rfl (fun hg => sf_fldC rfl TT.fldA_44_1 (by decide) rfl g3) ?_
  refine xg 8 (pI (r0.fEpoch)) rfl rfl (fun hg => sf_ldC (d := .val (.int .i64 (r0.fEpoch))) rfl TT.tyA_3 rfl (ldc_Row_1 _) g3) ?_
  refine xg 9 (pB (decide ((1048576 : Int) < (r0.fEpoch)))) rfl rfl (fun hg => sf_gtr (a := (r0.fEpoch)) (b := (1048576 : Int)) rfl rfl rfl g3) ?_
  refine xs 10 rfl (sf_pickO rfl rfl rfl rfl (fun _ => rfl) (fun hb => by rw [hb]; rfl) ?_)
  refine xm 11 (pB ((decide ((r0.fEpoch) < (0 : Int))) || (decide ((1048576 : Int) < (r0.fEpoch))))) ?_
  refine xg 12 (.d (.cptr ((cRow r0).drop 33))) rfl rfl (fun hg => sf_fldC rfl TT.fldA_44_2 (by decide) rfl g3) ?_
  refine xg 13 (pS (r0.fBody)) rfl rfl (fun hg => sf_ldC (d := .val (sV (r0.fBody))) rfl TT.tyA_9 rfl (ldc_Row_2 _) g3) ?_
  refine xg 14 (pI ((r0.fBody).length : Int)) rfl rfl (fun hg => sf_lenS (l := r0.fBody) rfl TT.under_9 rfl g3) ?_
  refine xg 15 (pB (decide ((70000 : Int) < ((r0.fBody).length : Int)))) rfl rfl (fun hg => sf_gtr (a := ((r0.fBody).length : Int)) (b := (70000 : Int)) rfl rfl rfl g3) ?_
  refine xs 16 rfl (sf_pickO rfl rfl rfl rfl (fun _ => rfl) (fun hb => by rw [hb]; rfl) ?_)
  refine xz 2 (pB (((decide ((r0.fEpoch) < (0 : Int))) || (decide ((1048576 : Int) < (r0.fEpoch)))) || (decide ((70000 : Int) < ((r0.fBody).length : Int))))) ?_
  refine QW.ret zL ?_
  obtain rfl := sO h
  exact Ends.one (.inr rfl) rfl (ResIs.tmp rfl) rfl rfl
noncomputable def g_slices_ContainsFunc_api_Row_api_Row (v0 : (List Row)) (f1 : Row → Option Bool) : Option Bool :=
    ((g_slices_IndexFunc_api_Row_api_Row v0 f1).bind fun (x_1 : Int) =>
    some (decide ((0 : Int) ≤ x_1)))
theorem sim_slices_ContainsFunc_api_Row_api_Row (v0 : (List Row)) (f1 : Row → Option Bool) (fn1 : Nat) (cp1 : List D) (he1 : entersB Try.prog fn1 = true) (hf1 : ∀ y0 r, f1 y0 = some r → Fun Try.prog fn1 ([.agg (cRow y0)] ++ cp1) (.val (.bool r))) (r : Bool) (h : g_slices_ContainsFunc_api_Row_api_Row v0 f1 = some r) : Fun Try.prog 52 [.slice (v0.map eRow), .clo fn1 cp1] (.val (.bool r)) := by
  refine Fun.of_bodyQ Try.func52 rfl (by simp [Try.ntmps52]) ?_
  rw [Try.ntmps52, TT.res_52]
  refine QW.view (s' := ⟨tab [(0, .d (.slice (v0.map eRow))), (1, .d (.clo fn1 cp1))], tabH [], 0, []⟩) (View.init (by rfl)) zL ?_
  unfold g_slices_ContainsFunc_api_Row_api_Row at h
  refine sR ?_
  refine xz 4 (pB false) ?_
  refine sR ?_
  refine xm 5 (.d (.slice (v0.map eRow))) ?_
  refine xm 6 (.d (.clo fn1 cp1)) ?_
  obtain ⟨x_1, hx_2, h⟩ := bO h
  refine xs 7 rfl (sf_call rfl rfl TT.enters_66 rfl (sim_slices_IndexFunc_api_Row_api_Row v0 f1 fn1 cp1 he1 hf1 _ hx_2) ?_)
  refine xs 8 rfl (sf_geq (a := x_1) (b := (0 : Int)) rfl rfl rfl ?_)
  refine xz 4 (pB (decide ((0 : Int) ≤ x_1))) ?_
  refine QW.ret zL ?_
  obtain rfl := sO h
  exact Ends.one (.inr rfl) rfl (ResIs.tmp rfl) rfl rfl
noncomputable def g_cmp_isNaN_byte (v0 : UInt8) : Option Bool :=
    some (!decide ((v0.toNat : Int) = (v0.toNat : Int)))
theorem sim_cmp_isNaN_byte (v0 : UInt8) (r : Bool) (h : g_cmp_isNaN_byte v0 = some r) : Fun Try.prog 77 [.val (.int .u8 (v0.toNat : Int))] (.val (.bool r)) := by
  refine Fun.of_bodyQ Try.func77 rfl (by simp [Try.ntmps77]) ?_
  rw [Try.ntmps77, TT.res_77]
  refine QW.view (s' := ⟨tab [(0, .d (.val (.int .u8 (v0.toNat : Int))))], tabH [], 0, []⟩) (View.init (by rfl)) zL ?_
  unfold g_cmp_isNaN_byte at h
  refine sR ?_
  refine xz 2 (pB false) ?_
  refine sR ?_
  refine xm 3 (.d (.val (.int .u8 (v0.toNat : Int)))) ?_
  refine xm 4 (.d (.val (.int .u8 (v0.toNat : Int)))) ?_
  refine xs 5 rfl (sf_ne (a := (v0.toNat : Int)) (b := (v0.toNat : Int)) rfl rfl rfl ?_)
  refine xz 2 (pB (!decide ((v0.toNat : Int) = (v0.toNat : Int)))) ?_
  refine QW.ret zL ?_
  obtain rfl := sO h
  exact Ends.one (.inr rfl) rfl (ResIs.tmp rfl) rfl rfl
noncomputable def g_cmp_Compare_byte (v0 : UInt8) (v1 : UInt8) : Option Int :=
    ((g_cmp_isNaN_byte v0).bind fun (x_1 : Bool) =>
    ((g_cmp_isNaN_byte v1).bind fun (x_3 : Bool) =>
    (bif x_1 then
    (bif x_3 then
    some (0)
    else
    some (-1))
    else
    (bif x_3 then
    some (1)
    else
    (bif (decide ((v0.toNat : Int) < (v1.toNat : Int))) then
    some (-1)
    else
    (bif (decide ((v1.toNat : Int) < (v0.toNat : Int))) then
    some (1)
    else
    some (0)))))))
theorem sim_cmp_Compare_byte (v0 : UInt8) (v1 : UInt8) (r : Int) (h : g_cmp_Compare_byte v0 v1 = some r) : Fun Try.prog 75 [.val (.int .u8 (v0.toNat : Int)), .val (.int .u8 (v1.toNat : Int))] (.val (.int .i64 r)) := by
  refine Fun.of_bodyQ Try.func75 rfl (by simp [Try.ntmps75]) ?_
  rw [Try.ntmps75, TT.res_75]
  refine QW.view (s' := ⟨tab [(0, .d (.val (.int .u8 (v0.toNat : Int)))), (1, .d (.val (.int .u8 (v1.toNat : Int))))], tabH [], 0, []⟩) (View.init (by rfl)) zL ?_
  unfold g_cmp_Compare_byte at h
  refine sR ?_
  refine xz 4 (pI (0)) ?_
  refine sR ?_
  refine xm 7 (.d (.val (.int .u8 (v0.toNat : Int)))) ?_
  obtain ⟨x_1, hx_2, h⟩ := bO h
  refine xs 8 rfl (sf_call rfl rfl TT.enters_77 rfl (sim_cmp_isNaN_byte v0 _ hx_2) ?_)
  refine xz 5 (pB x_1) ?_
  refine sR ?_
  refine xm 9 (.d (.val (.int .u8 (v1.toNat : Int)))) ?_
  obtain ⟨x_3, hx_4, h⟩ := bO h
  refine xs 10 rfl (sf_call rfl rfl TT.enters_77 rfl (sim_cmp_isNaN_byte v1 _ hx_4) ?_)
  refine xz 6 (pB x_3) ?_
  refine QW.seq ?_
  refine sR ?_
  refine xm 11 (pB x_1) ?_
  refine XK.nz ?_
  refine QW.cond (t := x_1) rfl zL (fun hb_5 => ?_) (fun hb_5 => ?_)
  · replace h := bT h hb_5
    refine QW.seq ?_
    refine sR ?_
    refine xm 12 (pB x_3) ?_
    refine XK.nz ?_
    refine QW.cond (t := x_3) rfl zL (fun hb_6 => ?_) (fun hb_6 => ?_)
    · replace h := bT h hb_6
      refine sR ?_
      refine xz 4 (pI (0)) ?_
      refine QW.ret zL (thR (thR ?_))
      obtain rfl := sO h
      exact Ends.one (.inr rfl) rfl (ResIs.tmp rfl) rfl rfl
    · replace h := bF h hb_6
      refine QW.skip zL (nrm ?_)
      refine sR ?_
      refine xz 4 (pI (-1)) ?_
      refine QW.ret zL (thR ?_)
      obtain rfl := sO h
      exact Ends.one (.inr rfl) rfl (ResIs.tmp rfl) rfl rfl
  · replace h := bF h hb_5
    refine QW.skip zL (nrm ?_)
    refine QW.seq ?_
    refine sR ?_
    refine xm 13 (pB x_3) ?_
    refine XK.nz ?_
    refine QW.cond (t := x_3) rfl zL (fun hb_7 => ?_) (fun hb_7 => ?_)
    · replace h := bT h hb_7
      refine sR ?_
      refine xz 4 (pI (1)) ?_
      refine QW.ret zL (thR ?_)
      obtain rfl := sO h
      exact Ends.one (.inr rfl) rfl (ResIs.tmp rfl) rfl rfl
    · replace h := bF h hb_7
      refine QW.skip zL (nrm ?_)
      refine QW.seq ?_
      refine sR ?_
      refine xm 14 (.d (.val (.int .u8 (v0.toNat : Int)))) ?_
      refine xm 15 (.d (.val (.int .u8 (v1.toNat : Int)))) ?_
      refine xs 16 rfl (sf_lss (a := (v0.toNat : Int)) (b := (v1.toNat : Int)) rfl rfl rfl ?_)
      refine XK.nz ?_
      refine QW.cond (t := (decide ((v0.toNat : Int) < (v1.toNat : Int)))) rfl zL (fun hb_8 => ?_) (fun hb_8 => ?_)
      · replace h := bT h hb_8
        refine sR ?_
        refine xz 4 (pI (-1)) ?_
        refine QW.ret zL (thR ?_)
        obtain rfl := sO h
        exact Ends.one (.inr rfl) rfl (ResIs.tmp rfl) rfl rfl
      · replace h := bF h hb_8
        refine QW.skip zL (nrm ?_)
        refine QW.seq ?_
        refine sR ?_
        refine xm 17 (.d (.val (.int .u8 (v0.toNat : Int)))) ?_
        refine xm 18 (.d (.val (.int .u8 (v1.toNat : Int)))) ?_
        refine xs 19 rfl (sf_gtr (a := (v0.toNat : Int)) (b := (v1.toNat : Int)) rfl rfl rfl ?_)
        refine XK.nz ?_
        refine QW.cond (t := (decide ((v1.toNat : Int) < (v0.toNat : Int)))) rfl zL (fun hb_9 => ?_) (fun hb_9 => ?_)
        · replace h := bT h hb_9
          refine sR ?_
          refine xz 4 (pI (1)) ?_
          refine QW.ret zL (thR ?_)
          obtain rfl := sO h
          exact Ends.one (.inr rfl) rfl (ResIs.tmp rfl) rfl rfl
        · replace h := bF h hb_9
          refine QW.skip zL (nrm ?_)
          refine sR ?_
          refine xz 4 (pI (0)) ?_
          refine QW.ret zL ?_
          obtain rfl := sO h
          exact Ends.one (.inr rfl) rfl (ResIs.tmp rfl) rfl rfl
inductive C_slices_Compare_byte_byte where
  | S
  | L1 (v11 : Int)
noncomputable def step_slices_Compare_byte_byte (v0 : (List UInt8)) (v1 : (List UInt8)) : C_slices_Compare_byte_byte → Option (C_slices_Compare_byte_byte ⊕ Int)
  | .S =>
    some (.inl (.L1 (0)))
  | .L1 v11 =>
    (bif (decide (v11 < (v0.length : Int))) then
    gO (0 ≤ v11 ∧ v11 < (v0.length : Int)) (
    (bif (decide ((v1.length : Int) ≤ v11)) then
    some (.inr (1))
    else
    gO (0 ≤ v11 ∧ v11 < (v1.length : Int)) (
    ((g_cmp_Compare_byte (idx v0 v11) (idx v1 v11)).bind fun (x_6 : Int) =>
    (bif (!decide (x_6 = (0 : Int))) then
    some (.inr x_6)
    else
    gO (inI (v11 + (1 : Int))) (
    some (.inl (.L1 (v11 + (1 : Int))))))))))
    else
    (bif (decide ((v0.length : Int) < (v1.length : Int))) then
    some (.inr (-1))
    else
    some (.inr (0))))
noncomputable def g_slices_Compare_byte_byte (v0 : (List UInt8)) (v1 : (List UInt8)) : Option Int := theC (step_slices_Compare_byte_byte v0 v1) .S
theorem sim_slices_Compare_byte_byte (v0 : (List UInt8)) (v1 : (List UInt8)) (r : Int) (h : g_slices_Compare_byte_byte v0 v1 = some r) : Fun Try.prog 73 [.slice (v0.map byteD), .slice (v1.map byteD)] (.val (.int .i64 r)) := by
  refine Fun.of_bodyQ Try.func73 rfl (by simp [Try.ntmps73]) ?_
  rw [Try.ntmps73, TT.res_73]
  refine QW.view (s' := ⟨tab [(0, .d (.slice (v0.map byteD))), (1, .d (.slice (v1.map byteD)))], tabH [], 0, []⟩) (View.init (by rfl)) zL ?_
  replace h := theC_get h
  obtain ⟨_, h⟩ := h
  obtain ⟨k_0, rfl, h9⟩ := run_succ h; replace h := h9; clear h9; rw [step_slices_Compare_byte_byte] at h
  refine sR ?_
  refine xz 4 (pI (0)) ?_
  refine QW.seq ?_
  refine sR ?_
  refine xm 9 (.d (.slice (v0.map byteD))) ?_
  refine xs 10 rfl (sf_lenL (en := byteD) (l := v0) rfl TT.under_78 rfl ?_)
  refine xm 11 (pI (0)) ?_
  refine XK.nz ?_
  refine QW.block ?_
  refine QW.loop (fun k σ => ∃ v11 : Int, k ≤ k_0 ∧ run (step_slices_Compare_byte_byte v0 v1) k (.L1 v11) = some r ∧ σ = ⟨tab [(0, .d (.slice (v0.map byteD))), (1, .d (.slice (v1.map byteD))), (9, .d (.slice (v0.map byteD))), (10, pI (v0.length : Int)), (11, pI v11)], tabH [], 0, []⟩) k_0 zL ⟨⟨tab [(0, .d (.slice (v0.map byteD))), (1, .d (.slice (v1.map byteD))), (9, .d (.slice (v0.map byteD))), (10, pI (v0.length : Int)), (11, pI (0))], tabH [], 0, []⟩, View.mk 0 [] _ _ _ rfl rfl (by decide) (iC (iC (iC (iC (iC trivial))))) trivial rfl zL rfl, 0, Nat.le_refl _, jG h, rfl⟩ ?_
  rintro k_1s _ ⟨v11, k_1h, h, rfl⟩
  obtain ⟨k_1, rfl, h9⟩ := run_succ h; replace h := h9; clear h9; rw [step_slices_Compare_byte_byte] at h
  refine sR ?_
  refine xs 12 rfl (sf_lss (a := v11) (b := (v0.length : Int)) rfl rfl rfl ?_)
  refine XK.nz ?_
  refine QW.seq ?_
  refine QW.cond (t := (decide (v11 < (v0.length : Int)))) rfl zL (fun hb_2 => ?_) (fun hb_2 => ?_)
  · replace h := bGT h hb_2
    refine QW.skip zL (nrm ?_)
    refine QW.seq ?_
    refine QW.block ?_
    refine sR ?_
    refine xm 13 (pI v11) ?_
    obtain ⟨c_3, h⟩ := gG h
    refine xs 14 rfl (sf_idxA (l := v0) (i := v11) rfl TT.slcA_78 lay_byte rfl rfl c_3 ?_)
    refine xs 15 rfl (sf_ldC (d := .val (.int .u8 ((idx v0 v11).toNat : Int))) rfl TT.tyA_5 rfl (LdC.one) ?_)
    refine xa 5 (pI v11) ?_
    refine xz 6 (.d (.val (.int .u8 ((idx v0 v11).toNat : Int)))) ?_
    refine QW.seq ?_
    refine sR ?_
    refine xm 16 (pI v11) ?_
    refine xm 17 (.d (.slice (v1.map byteD))) ?_
    refine xs 18 rfl (sf_lenL (en := byteD) (l := v1) rfl TT.under_78 rfl ?_)
    refine xs 19 rfl (sf_geq (a := v11) (b := (v1.length : Int)) rfl rfl rfl ?_)
    refine XK.nz ?_
    refine QW.cond (t := (decide ((v1.length : Int) ≤ v11))) rfl zL (fun hb_4 => ?_) (fun hb_4 => ?_)
    · replace h := bGT h hb_4
      refine sR ?_
      refine xz 4 (pI (1)) ?_
      refine QW.ret zL (thR (blR (thR (thR (blR (thR ?_))))))
      obtain rfl := sG h
      exact Ends.one (.inr rfl) rfl (ResIs.tmp rfl) rfl rfl
    · replace h := bGF h hb_4
      refine QW.skip zL (nrm ?_)
      refine sR ?_
      refine xm 20 (.d (.slice (v1.map byteD))) ?_
      refine xm 21 (pI v11) ?_
      obtain ⟨c_5, h⟩ := gG h
      refine xs 22 rfl (sf_idxA (l := v1) (i := v11) rfl TT.slcA_78 lay_byte rfl rfl c_5 ?_)
      refine xs 23 rfl (sf_ldC (d := .val (.int .u8 ((idx v1 v11).toNat : Int))) rfl TT.tyA_5 rfl (LdC.one) ?_)
      refine xz 7 (.d (.val (.int .u8 ((idx v1 v11).toNat : Int)))) ?_
      refine sR ?_
      refine xm 24 (.d (.val (.int .u8 ((idx v0 v11).toNat : Int)))) ?_
      refine xm 25 (.d (.val (.int .u8 ((idx v1 v11).toNat : Int)))) ?_
      obtain ⟨x_6, hx_7, h⟩ := bG h
      refine xs 26 rfl (sf_call rfl rfl TT.enters_75 rfl (sim_cmp_Compare_byte (idx v0 v11) (idx v1 v11) _ hx_7) ?_)
      refine xz 8 (pI x_6) ?_
      refine sR ?_
      refine xm 27 (pI x_6) ?_
      refine xs 28 rfl (sf_ne (a := x_6) (b := (0 : Int)) rfl rfl rfl ?_)
      refine XK.nz ?_
      refine QW.cond (t := (!decide (x_6 = (0 : Int)))) rfl zL (fun hb_8 => ?_) (fun hb_8 => ?_)
      · replace h := bGT h hb_8
        refine sR ?_
        refine xm 29 (pI x_6) ?_
        refine xz 4 (pI x_6) ?_
        refine QW.ret zL (blR (thR (thR (blR (thR ?_)))))
        obtain rfl := sG h
        exact Ends.one (.inr rfl) rfl (ResIs.tmp rfl) rfl rfl
      · replace h := bGF h hb_8
        refine QW.skip zL (blN (nrm ?_))
        refine rG ?_
        obtain ⟨c_9, h⟩ := gG h
        refine xs 30 rfl (sf_add (a := v11) (b := (1 : Int)) rfl rfl rfl c_9 ?_)
        refine xm 11 (pI (v11 + (1 : Int))) ?_
        refine XK.nz ?_
        exact ⟨k_1, by omega, ⟨tab [(0, .d (.slice (v0.map byteD))), (1, .d (.slice (v1.map byteD))), (9, .d (.slice (v0.map byteD))), (10, pI (v0.length : Int)), (11, pI (v11 + (1 : Int)))], tabH [], 0, []⟩, View.mk 0 [] _ _ _ rfl rfl (by decide) (iC (iC (iC (iC (iC trivial))))) trivial rfl zL rfl, (v11 + (1 : Int)), by omega, jG h, rfl⟩
  · replace h := bGF h hb_2
    refine QW.exit zL (thX (thX (exE (nrm ?_))))
    refine QW.seq ?_
    refine sR ?_
    refine xm 31 (.d (.slice (v0.map byteD))) ?_
    refine xs 32 rfl (sf_lenL (en := byteD) (l := v0) rfl TT.under_78 rfl ?_)
    refine xm 33 (.d (.slice (v1.map byteD))) ?_
    refine xs 34 rfl (sf_lenL (en := byteD) (l := v1) rfl TT.under_78 rfl ?_)
    refine xs 35 rfl (sf_lss (a := (v0.length : Int)) (b := (v1.length : Int)) rfl rfl rfl ?_)
    refine XK.nz ?_
    refine QW.cond (t := (decide ((v0.length : Int) < (v1.length : Int)))) rfl zL (fun hb_10 => ?_) (fun hb_10 => ?_)
    · replace h := bGT h hb_10
      refine sR ?_
      refine xz 4 (pI (-1)) ?_
      refine QW.ret zL (thR ?_)
      obtain rfl := sG h
      exact Ends.one (.inr rfl) rfl (ResIs.tmp rfl) rfl rfl
    · replace h := bGF h hb_10
      refine QW.skip zL (nrm ?_)
      refine sR ?_
      refine xz 4 (pI (0)) ?_
      refine QW.ret zL ?_
      obtain rfl := sG h
      exact Ends.one (.inr rfl) rfl (ResIs.tmp rfl) rfl rfl
noncomputable def g_cmp_isNaN_int (v0 : Int) : Option Bool :=
    some (!decide (v0 = v0))
theorem sim_cmp_isNaN_int (v0 : Int) (r : Bool) (h : g_cmp_isNaN_int v0 = some r) : Fun Try.prog 76 [.val (.int .i64 v0)] (.val (.bool r)) := by
  refine Fun.of_bodyQ Try.func76 rfl (by simp [Try.ntmps76]) ?_
  rw [Try.ntmps76, TT.res_76]
  refine QW.view (s' := ⟨tab [(0, pI v0)], tabH [], 0, []⟩) (View.init (by rfl)) zL ?_
  unfold g_cmp_isNaN_int at h
  refine sR ?_
  refine xz 2 (pB false) ?_
  refine sR ?_
  refine xm 3 (pI v0) ?_
  refine xm 4 (pI v0) ?_
  refine xs 5 rfl (sf_ne (a := v0) (b := v0) rfl rfl rfl ?_)
  refine xz 2 (pB (!decide (v0 = v0))) ?_
  refine QW.ret zL ?_
  obtain rfl := sO h
  exact Ends.one (.inr rfl) rfl (ResIs.tmp rfl) rfl rfl
noncomputable def g_cmp_Compare_int (v0 : Int) (v1 : Int) : Option Int :=
    ((g_cmp_isNaN_int v0).bind fun (x_1 : Bool) =>
    ((g_cmp_isNaN_int v1).bind fun (x_3 : Bool) =>
    (bif x_1 then
    (bif x_3 then
    some (0)
    else
    some (-1))
    else
    (bif x_3 then
    some (1)
    else
    (bif (decide (v0 < v1)) then
    some (-1)
    else
    (bif (decide (v1 < v0)) then
    some (1)
    else
    some (0)))))))
theorem sim_cmp_Compare_int (v0 : Int) (v1 : Int) (r : Int) (h : g_cmp_Compare_int v0 v1 = some r) : Fun Try.prog 74 [.val (.int .i64 v0), .val (.int .i64 v1)] (.val (.int .i64 r)) := by
  refine Fun.of_bodyQ Try.func74 rfl (by simp [Try.ntmps74]) ?_
  rw [Try.ntmps74, TT.res_74]
  refine QW.view (s' := ⟨tab [(0, pI v0), (1, pI v1)], tabH [], 0, []⟩) (View.init (by rfl)) zL ?_
  unfold g_cmp_Compare_int at h
  refine sR ?_
  refine xz 4 (pI (0)) ?_
  refine sR ?_
  refine xm 7 (pI v0) ?_
  obtain ⟨x_1, hx_2, h⟩ := bO h
  refine xs 8 rfl (sf_call rfl rfl TT.enters_76 rfl (sim_cmp_isNaN_int v0 _ hx_2) ?_)
  refine xz 5 (pB x_1) ?_
  refine sR ?_
  refine xm 9 (pI v1) ?_
  obtain ⟨x_3, hx_4, h⟩ := bO h
  refine xs 10 rfl (sf_call rfl rfl TT.enters_76 rfl (sim_cmp_isNaN_int v1 _ hx_4) ?_)
  refine xz 6 (pB x_3) ?_
  refine QW.seq ?_
  refine sR ?_
  refine xm 11 (pB x_1) ?_
  refine XK.nz ?_
  refine QW.cond (t := x_1) rfl zL (fun hb_5 => ?_) (fun hb_5 => ?_)
  · replace h := bT h hb_5
    refine QW.seq ?_
    refine sR ?_
    refine xm 12 (pB x_3) ?_
    refine XK.nz ?_
    refine QW.cond (t := x_3) rfl zL (fun hb_6 => ?_) (fun hb_6 => ?_)
    · replace h := bT h hb_6
      refine sR ?_
      refine xz 4 (pI (0)) ?_
      refine QW.ret zL (thR (thR ?_))
      obtain rfl := sO h
      exact Ends.one (.inr rfl) rfl (ResIs.tmp rfl) rfl rfl
    · replace h := bF h hb_6
      refine QW.skip zL (nrm ?_)
      refine sR ?_
      refine xz 4 (pI (-1)) ?_
      refine QW.ret zL (thR ?_)
      obtain rfl := sO h
      exact Ends.one (.inr rfl) rfl (ResIs.tmp rfl) rfl rfl
  · replace h := bF h hb_5
    refine QW.skip zL (nrm ?_)
    refine QW.seq ?_
    refine sR ?_
    refine xm 13 (pB x_3) ?_
    refine XK.nz ?_
    refine QW.cond (t := x_3) rfl zL (fun hb_7 => ?_) (fun hb_7 => ?_)
    · replace h := bT h hb_7
      refine sR ?_
      refine xz 4 (pI (1)) ?_
      refine QW.ret zL (thR ?_)
      obtain rfl := sO h
      exact Ends.one (.inr rfl) rfl (ResIs.tmp rfl) rfl rfl
    · replace h := bF h hb_7
      refine QW.skip zL (nrm ?_)
      refine QW.seq ?_
      refine sR ?_
      refine xm 14 (pI v0) ?_
      refine xm 15 (pI v1) ?_
      refine xs 16 rfl (sf_lss (a := v0) (b := v1) rfl rfl rfl ?_)
      refine XK.nz ?_
      refine QW.cond (t := (decide (v0 < v1))) rfl zL (fun hb_8 => ?_) (fun hb_8 => ?_)
      · replace h := bT h hb_8
        refine sR ?_
        refine xz 4 (pI (-1)) ?_
        refine QW.ret zL (thR ?_)
        obtain rfl := sO h
        exact Ends.one (.inr rfl) rfl (ResIs.tmp rfl) rfl rfl
      · replace h := bF h hb_8
        refine QW.skip zL (nrm ?_)
        refine QW.seq ?_
        refine sR ?_
        refine xm 17 (pI v0) ?_
        refine xm 18 (pI v1) ?_
        refine xs 19 rfl (sf_gtr (a := v0) (b := v1) rfl rfl rfl ?_)
        refine XK.nz ?_
        refine QW.cond (t := (decide (v1 < v0))) rfl zL (fun hb_9 => ?_) (fun hb_9 => ?_)
        · replace h := bT h hb_9
          refine sR ?_
          refine xz 4 (pI (1)) ?_
          refine QW.ret zL (thR ?_)
          obtain rfl := sO h
          exact Ends.one (.inr rfl) rfl (ResIs.tmp rfl) rfl rfl
        · replace h := bF h hb_9
          refine QW.skip zL (nrm ?_)
          refine sR ?_
          refine xz 4 (pI (0)) ?_
          refine QW.ret zL ?_
          obtain rfl := sO h
          exact Ends.one (.inr rfl) rfl (ResIs.tmp rfl) rfl rfl
inductive C_cmp_Or_int where
  | S
  | L1 (v8 : Int)
noncomputable def step_cmp_Or_int (v0 : (List Int)) : C_cmp_Or_int → Option (C_cmp_Or_int ⊕ Int)
  | .S =>
    some (.inl (.L1 (0)))
  | .L1 v8 =>
    (bif (decide (v8 < (v0.length : Int))) then
    gO (0 ≤ v8 ∧ v8 < (v0.length : Int)) (
    (bif (!decide ((idx v0 v8) = (0 : Int))) then
    some (.inr (idx v0 v8))
    else
    gO (inI (v8 + (1 : Int))) (
    some (.inl (.L1 (v8 + (1 : Int)))))))
    else
    some (.inr (0)))
noncomputable def g_cmp_Or_int (v0 : (List Int)) : Option Int := theC (step_cmp_Or_int v0) .S
theorem sim_cmp_Or_int (v0 : (List Int)) (r : Int) (h : g_cmp_Or_int v0 = some r) : Fun Try.prog 72 [.slice (v0.map eI)] (.val (.int .i64 r)) := by
  refine Fun.of_bodyQ Try.func72 rfl (by simp [Try.ntmps72]) ?_
  rw [Try.ntmps72, TT.res_72]
  refine QW.view (s' := ⟨tab [(0, .d (.slice (v0.map eI)))], tabH [], 0, []⟩) (View.init (by rfl)) zL ?_
  replace h := theC_get h
  obtain ⟨_, h⟩ := h
  obtain ⟨k_0, rfl, h9⟩ := run_succ h; replace h := h9; clear h9; rw [step_cmp_Or_int] at h
  refine sR ?_
  refine xz 2 (pI (0)) ?_
  refine sR ?_
  refine xz 3 (pI (0)) ?_
  refine QW.seq ?_
  refine sR ?_
  refine xm 6 (.d (.slice (v0.map eI))) ?_
  refine xs 7 rfl (sf_lenL (en := eI) (l := v0) rfl TT.under_52 rfl ?_)
  refine xm 8 (pI (0)) ?_
  refine XK.nz ?_
  refine QW.block ?_
  refine QW.loop (fun k σ => ∃ v8 : Int, k ≤ k_0 ∧ run (step_cmp_Or_int v0) k (.L1 v8) = some r ∧ σ = ⟨tab [(3, pI (0)), (6, .d (.slice (v0.map eI))), (7, pI (v0.length : Int)), (8, pI v8)], tabH [], 0, []⟩) k_0 zL ⟨⟨tab [(3, pI (0)), (6, .d (.slice (v0.map eI))), (7, pI (v0.length : Int)), (8, pI (0))], tabH [], 0, []⟩, View.mk 0 [] _ _ _ rfl rfl (by decide) (iC (iC (iC (iC trivial)))) trivial rfl zL rfl, 0, Nat.le_refl _, jG h, rfl⟩ ?_
  rintro k_1s _ ⟨v8, k_1h, h, rfl⟩
  obtain ⟨k_1, rfl, h9⟩ := run_succ h; replace h := h9; clear h9; rw [step_cmp_Or_int] at h
  refine sR ?_
  refine xs 9 rfl (sf_lss (a := v8) (b := (v0.length : Int)) rfl rfl rfl ?_)
  refine XK.nz ?_
  refine QW.seq ?_
  refine QW.cond (t := (decide (v8 < (v0.length : Int)))) rfl zL (fun hb_2 => ?_) (fun hb_2 => ?_)
  · replace h := bGT h hb_2
    refine QW.skip zL (nrm ?_)
    refine QW.seq ?_
    refine QW.block ?_
    refine sR ?_
    obtain ⟨c_3, h⟩ := gG h
    refine xs 10 rfl (sf_idxA (l := v0) (i := v8) rfl TT.slcA_52 lay_I rfl rfl c_3 ?_)
    refine xs 11 rfl (sf_ldC (d := .val (.int .i64 (idx v0 v8))) rfl TT.tyA_3 rfl (LdC.one) ?_)
    refine xz 5 (pI (idx v0 v8)) ?_
    refine sR ?_
    refine xm 12 (pI (idx v0 v8)) ?_
    refine xm 13 (pI (0)) ?_
    refine xs 14 rfl (sf_ne (a := (idx v0 v8)) (b := (0 : Int)) rfl rfl rfl ?_)
    refine XK.nz ?_
    refine QW.cond (t := (!decide ((idx v0 v8) = (0 : Int)))) rfl zL (fun hb_4 => ?_) (fun hb_4 => ?_)
    · replace h := bGT h hb_4
      refine sR ?_
      refine xm 15 (pI (idx v0 v8)) ?_
      refine xz 2 (pI (idx v0 v8)) ?_
      refine QW.ret zL (blR (thR (thR (blR (thR ?_)))))
      obtain rfl := sG h
      exact Ends.one (.inr rfl) rfl (ResIs.tmp rfl) rfl rfl
    · replace h := bGF h hb_4
      refine QW.skip zL (blN (nrm ?_))
      refine rG ?_
      obtain ⟨c_5, h⟩ := gG h
      refine xs 16 rfl (sf_add (a := v8) (b := (1 : Int)) rfl rfl rfl c_5 ?_)
      refine xm 8 (pI (v8 + (1 : Int))) ?_
      refine XK.nz ?_
      exact ⟨k_1, by omega, ⟨tab [(3, pI (0)), (6, .d (.slice (v0.map eI))), (7, pI (v0.length : Int)), (8, pI (v8 + (1 : Int)))], tabH [], 0, []⟩, View.mk 0 [] _ _ _ rfl rfl (by decide) (iC (iC (iC (iC trivial)))) trivial rfl zL rfl, (v8 + (1 : Int)), by omega, jG h, rfl⟩
  · replace h := bGF h hb_2
    refine QW.exit zL (thX (thX (exE (nrm ?_))))
    refine sR ?_
    refine xm 17 (pI (0)) ?_
    refine xz 2 (pI (0)) ?_
    refine QW.ret zL ?_
    obtain rfl := sG h
    exact Ends.one (.inr rfl) rfl (ResIs.tmp rfl) rfl rfl
noncomputable def g_page_order (a0 : Row) (b1 : Row) : Option Int :=
    ((g_slices_Compare_byte_byte ((a0.fSum).1) ((b1.fSum).1)).bind fun (x_1 : Int) =>
    ((g_cmp_Compare_int (a0.fEpoch) (b1.fEpoch)).bind fun (x_3 : Int) =>
    ((g_cmp_Or_int ([x_1, x_3] : List Int)).bind fun (x_5 : Int) =>
    some x_5)))
theorem sim_page_order (a0 : Row) (b1 : Row) (r : Int) (h : g_page_order a0 b1 = some r) : Fun Try.prog 61 [.agg (cRow a0), .agg (cRow b1)] (.val (.int .i64 r)) := by
  refine Fun.of_bodyQ Try.func61 rfl (by simp [Try.ntmps61]) ?_
  rw [Try.ntmps61, TT.res_61]
  refine QW.view (s' := ⟨tab [(0, .d (.agg (cRow a0))), (1, .d (.agg (cRow b1)))], tabH [], 0, []⟩) (View.init (by rfl)) zL ?_
  unfold g_page_order at h
  refine sR ?_
  refine XK.fz (some 2) rfl rfl (sf_boxF (ds := cRow a0) rfl rfl rfl rfl toDs_map ?_)
  refine XK.fz (some 3) rfl rfl (sf_boxF (ds := cRow b1) rfl rfl rfl rfl toDs_map ?_)
  refine xz 4 (pI (0)) ?_
  refine QW.seq ?_
  refine QW.region zL (PW.regQ (id := 1) mixedX (M := _) rfl (by kernel_rfl) ?_)
  refine RQ.st (some 5) rfl rfl (sf_fldC rfl TT.fldA_44_0 (by decide) rfl ⟨⟨rfl, rfl⟩, ?_⟩)
  refine RQ.st (some 6) rfl rfl (sf_subA0 (en := byteD) (a := a0.fSum) rfl TT.under_41 TT.arrA_41 (pre_Row_0 _) (flat_drop (flat_Row _)) rfl ⟨⟨rfl, rfl⟩, ?_⟩)
  refine RQ.st (some 7) rfl rfl (sf_fldC rfl TT.fldA_44_0 (by decide) rfl ⟨⟨rfl, rfl⟩, ?_⟩)
  refine RQ.st (some 8) rfl rfl (sf_subA0 (en := byteD) (a := b1.fSum) rfl TT.under_41 TT.arrA_41 (pre_Row_0 _) (flat_drop (flat_Row _)) rfl ⟨⟨rfl, rfl⟩, ?_⟩)
  obtain ⟨x_1, hx_2, h⟩ := bO h
  refine RQ.st (some 9) rfl rfl (sf_call rfl rfl TT.enters_73 rfl (sim_slices_Compare_byte_byte ((a0.fSum).1) ((b1.fSum).1) _ hx_2) ⟨⟨rfl, rfl⟩, ?_⟩)
  refine RQ.st (some 10) rfl rfl (sf_fldC rfl TT.fldA_44_1 (by decide) rfl ⟨⟨rfl, rfl⟩, ?_⟩)
  refine RQ.st (some 11) rfl rfl (sf_ldC (d := .val (.int .i64 (a0.fEpoch))) rfl TT.tyA_3 rfl (ldc_Row_1 _) ⟨⟨rfl, rfl⟩, ?_⟩)
  refine RQ.st (some 12) rfl rfl (sf_fldC rfl TT.fldA_44_1 (by decide) rfl ⟨⟨rfl, rfl⟩, ?_⟩)
  refine RQ.st (some 13) rfl rfl (sf_ldC (d := .val (.int .i64 (b1.fEpoch))) rfl TT.tyA_3 rfl (ldc_Row_1 _) ⟨⟨rfl, rfl⟩, ?_⟩)
  obtain ⟨x_3, hx_4, h⟩ := bO h
  refine RQ.st (some 14) rfl rfl (sf_call rfl rfl TT.enters_74 rfl (sim_cmp_Compare_int (a0.fEpoch) (b1.fEpoch) _ hx_4) ⟨⟨rfl, rfl⟩, ?_⟩)
  refine RQ.st (some 15) rfl rfl (sf_row (en := eI) (l := ([x_1, x_3] : List Int)) rfl TT.rowA_52 lay_I rfl rfl (by decide) (by simp [solids, partsP, evP, ofVal, PV.solid, putS_at, tab, unS, unT, unC, asCond, Value.oneCell']) ⟨⟨rfl, rfl⟩, ?_⟩)
  obtain ⟨x_5, hx_6, h⟩ := bO h
  refine RQ.st (some 16) rfl rfl (sf_call rfl rfl TT.enters_72 rfl (sim_cmp_Or_int ([x_1, x_3] : List Int) _ hx_6) ⟨⟨rfl, rfl⟩, ?_⟩)
  refine RQ.st (some 4) rfl rfl (sf_assign (v := pI x_5) rfl rfl ⟨⟨rfl, rfl⟩, ?_⟩)
  refine RQ.nil (nrm ?_)
  refine QW.ret zL ?_
  obtain rfl := sO h
  exact Ends.one (.inr rfl) rfl (ResIs.tmp rfl) rfl rfl
noncomputable def g_page_Less (a0 : Row) (b1 : Row) : Option Bool :=
    ((g_page_order a0 b1).bind fun (x_1 : Int) =>
    some (decide (x_1 < (0 : Int))))
theorem sim_page_Less (a0 : Row) (b1 : Row) (r : Bool) (h : g_page_Less a0 b1 = some r) : Fun Try.prog 39 [.agg (cRow a0), .agg (cRow b1)] (.val (.bool r)) := by
  refine Fun.of_bodyQ Try.func39 rfl (by simp [Try.ntmps39]) ?_
  rw [Try.ntmps39, TT.res_39]
  refine QW.view (s' := ⟨tab [(0, .d (.agg (cRow a0))), (1, .d (.agg (cRow b1)))], tabH [], 0, []⟩) (View.init (by rfl)) zL ?_
  unfold g_page_Less at h
  refine sR ?_
  refine XK.fz (some 2) rfl rfl (sf_boxF (ds := cRow a0) rfl rfl rfl rfl toDs_map ?_)
  refine XK.fz (some 3) rfl rfl (sf_boxF (ds := cRow b1) rfl rfl rfl rfl toDs_map ?_)
  refine xz 4 (pB false) ?_
  refine sR ?_
  refine xs 5 rfl (sf_ldC (d := .agg (cRow a0)) rfl TT.tyA_44 rfl (⟨by rw [lay_Row.len]; decide, congrArg D.agg (List.take_of_length_le (by rw [lay_Row.len]; decide))⟩) ?_)
  refine xs 6 rfl (sf_ldC (d := .agg (cRow b1)) rfl TT.tyA_44 rfl (⟨by rw [lay_Row.len]; decide, congrArg D.agg (List.take_of_length_le (by rw [lay_Row.len]; decide))⟩) ?_)
  obtain ⟨x_1, hx_2, h⟩ := bO h
  refine xs 7 rfl (sf_call rfl rfl TT.enters_61 rfl (sim_page_order a0 b1 _ hx_2) ?_)
  refine xs 8 rfl (sf_lss (a := x_1) (b := (0 : Int)) rfl rfl rfl ?_)
  refine xz 4 (pB (decide (x_1 < (0 : Int)))) ?_
  refine QW.ret zL ?_
  obtain rfl := sO h
  exact Ends.one (.inr rfl) rfl (ResIs.tmp rfl) rfl rfl
inductive C_page_Check where
  | S
  | L1 (v4 : Int)
noncomputable def step_page_Check (rows0 : (List Row)) : C_page_Check → Option (C_page_Check ⊕ Int)
  | .S =>
    ((bif ((decide ((8 : Int) < (rows0.length : Int))) == false) then g_slices_ContainsFunc_api_Row_api_Row rows0 (fun y0 => g_page_Check_1 y0) else some default).bind fun (x_1 : Bool) =>
    (bif ((decide ((8 : Int) < (rows0.length : Int))) || x_1) then
    some (.inr (2))
    else
    some (.inl (.L1 (1)))))
  | .L1 v4 =>
    (bif (decide (v4 < (rows0.length : Int))) then
    gO (inI (v4 - (1 : Int))) (
    gO (0 ≤ (v4 - (1 : Int)) ∧ (v4 - (1 : Int)) < (rows0.length : Int)) (
    gO (0 ≤ v4 ∧ v4 < (rows0.length : Int)) (
    ((g_page_Less (idx rows0 (v4 - (1 : Int))) (idx rows0 v4)).bind fun (x_9 : Bool) =>
    (bif (!x_9) then
    some (.inr (2))
    else
    gO (inI (v4 + (1 : Int))) (
    some (.inl (.L1 (v4 + (1 : Int))))))))))
    else
    some (.inr (0)))
noncomputable def g_page_Check (rows0 : (List Row)) : Option Int := theC (step_page_Check rows0) .S
theorem sim_page_Check (rows0 : (List Row)) (r : Int) (h : g_page_Check rows0 = some r) : Fun Try.prog 27 [.slice (rows0.map eRow)] (.val (.int .i64 r)) := by
  refine Fun.of_bodyQ Try.func27 rfl (by simp [Try.ntmps27]) ?_
  rw [Try.ntmps27, TT.res_27]
  refine QW.view (s' := ⟨tab [(0, .d (.slice (rows0.map eRow)))], tabH [], 0, []⟩) (View.init (by rfl)) zL ?_
  replace h := theC_get h
  obtain ⟨_, h⟩ := h
  obtain ⟨k_0, rfl, h9⟩ := run_succ h; replace h := h9; clear h9; rw [step_page_Check] at h
  refine sR ?_
  refine xz 2 (pI (0)) ?_
  refine sR ?_
  refine xz 3 (.d (.clo 51 [])) ?_
  refine QW.seq ?_
  refine sR ?_
  refine xm 5 (.d (.slice (rows0.map eRow))) ?_
  refine xs 6 rfl (sf_lenL (en := eRow) (l := rows0) rfl TT.under_38 rfl ?_)
  refine xs 7 rfl (sf_gtr (a := (rows0.length : Int)) (b := (8 : Int)) rfl rfl rfl ?_)
  refine xm 8 (pB (decide ((8 : Int) < (rows0.length : Int)))) ?_
  refine xg 9 (.d (.slice (rows0.map eRow))) rfl rfl (fun hg => sf_move (v := .d (.slice (rows0.map eRow))) rfl rfl g3) ?_
  refine xg 10 (.d (.clo 51 [])) rfl rfl (fun hg => sf_move (v := .d (.clo 51 [])) rfl rfl g3) ?_
  obtain ⟨x_1, hx_2, h⟩ := bG h
  refine xg 11 (pB x_1) rfl rfl (fun hg => sf_call rfl rfl TT.enters_52 rfl (sim_slices_ContainsFunc_api_Row_api_Row rows0 (fun y0 => g_page_Check_1 y0) 51 [] TT.enters_51 (fun y0 _ h => sim_page_Check_1 y0 _ h) _ (bT hx_2 hg)) g3) ?_
  refine xs 12 rfl (sf_pickO rfl rfl rfl rfl (fun _ => rfl) (fun hb => by rw [hb]; rfl) ?_)
  refine XK.nz ?_
  refine QW.cond (t := ((decide ((8 : Int) < (rows0.length : Int))) || x_1)) rfl zL (fun hb_3 => ?_) (fun hb_3 => ?_)
  · replace h := bGT h hb_3
    refine sR ?_
    refine xz 2 (pI (2)) ?_
    refine QW.ret zL (thR ?_)
    obtain rfl := sG h
    exact Ends.one (.inr rfl) rfl (ResIs.tmp rfl) rfl rfl
  · replace h := bGF h hb_3
    refine QW.skip zL (nrm ?_)
    refine QW.seq ?_
    refine sR ?_
    refine xz 4 (pI (1)) ?_
    refine QW.block ?_
    refine QW.loop (fun k σ => ∃ v4 : Int, k ≤ k_0 ∧ run (step_page_Check rows0) k (.L1 v4) = some r ∧ σ = ⟨tab [(0, .d (.slice (rows0.map eRow))), (4, pI v4)], tabH [], 0, []⟩) k_0 zL ⟨⟨tab [(0, .d (.slice (rows0.map eRow))), (4, pI (1))], tabH [], 0, []⟩, View.mk 0 [] _ _ _ rfl rfl (by decide) (iC (iC trivial)) trivial rfl zL rfl, 1, Nat.le_refl _, jG h, rfl⟩ ?_
    rintro k_4s _ ⟨v4, k_4h, h, rfl⟩
    obtain ⟨k_4, rfl, h9⟩ := run_succ h; replace h := h9; clear h9; rw [step_page_Check] at h
    refine QW.seq ?_
    refine sR ?_
    refine xm 13 (pI v4) ?_
    refine xm 14 (.d (.slice (rows0.map eRow))) ?_
    refine xs 15 rfl (sf_lenL (en := eRow) (l := rows0) rfl TT.under_38 rfl ?_)
    refine xs 16 rfl (sf_lss (a := v4) (b := (rows0.length : Int)) rfl rfl rfl ?_)
    refine XK.nz ?_
    refine QW.cond (t := (decide (v4 < (rows0.length : Int)))) rfl zL (fun hb_5 => ?_) (fun hb_5 => ?_)
    · replace h := bGT h hb_5
      refine QW.skip zL (nrm ?_)
      refine QW.seq ?_
      refine QW.block ?_
      refine QW.seq ?_
      refine QW.region zL (PW.regQ (id := 7) mixedX (M := _) rfl (by kernel_rfl) ?_)
      refine RQ.st (some 19) rfl rfl (sf_move (v := .d (.slice (rows0.map eRow))) rfl rfl ⟨⟨rfl, rfl⟩, ?_⟩)
      refine RQ.st (some 20) rfl rfl (sf_move (v := pI v4) rfl rfl ⟨⟨rfl, rfl⟩, ?_⟩)
      obtain ⟨c_6, h⟩ := gG h
      refine RQ.st (some 21) rfl rfl (sf_sub (a := v4) (b := (1 : Int)) rfl rfl rfl c_6 ⟨⟨rfl, rfl⟩, ?_⟩)
      obtain ⟨c_7, h⟩ := gG h
      refine RQ.st (some 22) rfl rfl (sf_idxA (l := rows0) (i := (v4 - (1 : Int))) rfl TT.slcA_38 lay_Row rfl rfl c_7 ⟨⟨rfl, rfl⟩, ?_⟩)
      refine RQ.st (some 23) rfl rfl (sf_ldC (d := .agg (cRow (idx rows0 (v4 - (1 : Int))))) rfl TT.tyA_44 rfl (⟨by rw [lay_Row.len]; decide, congrArg D.agg (List.take_of_length_le (by rw [lay_Row.len]; decide))⟩) ⟨⟨rfl, rfl⟩, ?_⟩)
      refine RQ.st (some 24) rfl rfl (sf_move (v := .d (.slice (rows0.map eRow))) rfl rfl ⟨⟨rfl, rfl⟩, ?_⟩)
      refine RQ.st (some 25) rfl rfl (sf_move (v := pI v4) rfl rfl ⟨⟨rfl, rfl⟩, ?_⟩)
      obtain ⟨c_8, h⟩ := gG h
      refine RQ.st (some 26) rfl rfl (sf_idxA (l := rows0) (i := v4) rfl TT.slcA_38 lay_Row rfl rfl c_8 ⟨⟨rfl, rfl⟩, ?_⟩)
      refine RQ.st (some 27) rfl rfl (sf_ldC (d := .agg (cRow (idx rows0 v4))) rfl TT.tyA_44 rfl (⟨by rw [lay_Row.len]; decide, congrArg D.agg (List.take_of_length_le (by rw [lay_Row.len]; decide))⟩) ⟨⟨rfl, rfl⟩, ?_⟩)
      obtain ⟨x_9, hx_10, h⟩ := bG h
      refine RQ.st (some 28) rfl rfl (sf_call rfl rfl TT.enters_39 rfl (sim_page_Less (idx rows0 (v4 - (1 : Int))) (idx rows0 v4) _ hx_10) ⟨⟨rfl, rfl⟩, ?_⟩)
      refine RQ.st (some 29) rfl rfl (sf_not rfl rfl ⟨⟨rfl, rfl⟩, ?_⟩)
      refine RQ.nil (nrm ?_)
      refine QW.cond (t := (!x_9)) rfl zL (fun hb_11 => ?_) (fun hb_11 => ?_)
      · replace h := bGT h hb_11
        refine sR ?_
        refine xz 2 (pI (2)) ?_
        refine QW.ret zL (blR (thR (thR (blR (thR ?_)))))
        obtain rfl := sG h
        exact Ends.one (.inr rfl) rfl (ResIs.tmp rfl) rfl rfl
      · replace h := bGF h hb_11
        refine QW.skip zL (blN (nrm ?_))
        refine rG ?_
        refine xm 17 (pI v4) ?_
        obtain ⟨c_12, h⟩ := gG h
        refine xs 18 rfl (sf_add (a := v4) (b := (1 : Int)) rfl rfl rfl c_12 ?_)
        refine xz 4 (pI (v4 + (1 : Int))) ?_
        exact ⟨k_4, by omega, ⟨tab [(0, .d (.slice (rows0.map eRow))), (4, pI (v4 + (1 : Int)))], tabH [], 0, []⟩, View.mk 0 [] _ _ _ rfl rfl (by decide) (iC (iC trivial)) trivial rfl zL rfl, (v4 + (1 : Int)), by omega, jG h, rfl⟩
    · replace h := bGF h hb_5
      refine QW.exit zL (thX (thX (exE (nrm ?_))))
      refine sR ?_
      refine xz 2 (pI (0)) ?_
      refine QW.ret zL ?_
      obtain rfl := sG h
      exact Ends.one (.inr rfl) rfl (ResIs.tmp rfl) rfl rfl
inductive C_slices_BinarySearchFunc_api_Row_api_Row_api_Row where
  | S
  | L1 (v9 : Int) (v10 : Int)
noncomputable def step_slices_BinarySearchFunc_api_Row_api_Row_api_Row (v0 : (List Row)) (v1 : Row) (f2 : Row → Row → Option Int) : C_slices_BinarySearchFunc_api_Row_api_Row_api_Row → Option (C_slices_BinarySearchFunc_api_Row_api_Row_api_Row ⊕ (Int × Bool))
  | .S =>
    some (.inl (.L1 (0) (v0.length : Int)))
  | .L1 v9 v10 =>
    (bif (decide (v9 < v10)) then
    gO (inI (v9 + v10)) (
    gO (inI ((wshr (BitVec.ofInt 64 (v9 + v10)) (1 : Int)).toNat : Int)) (
    gO (0 ≤ ((wshr (BitVec.ofInt 64 (v9 + v10)) (1 : Int)).toNat : Int) ∧ ((wshr (BitVec.ofInt 64 (v9 + v10)) (1 : Int)).toNat : Int) < (v0.length : Int)) (
    ((f2 (idx v0 ((wshr (BitVec.ofInt 64 (v9 + v10)) (1 : Int)).toNat : Int)) v1).bind fun (x_6 : Int) =>
    (bif (decide (x_6 < (0 : Int))) then
    gO (inI (((wshr (BitVec.ofInt 64 (v9 + v10)) (1 : Int)).toNat : Int) + (1 : Int))) (
    some (.inl (.L1 (((wshr (BitVec.ofInt 64 (v9 + v10)) (1 : Int)).toNat : Int) + (1 : Int)) v10)))
    else
    some (.inl (.L1 v9 ((wshr (BitVec.ofInt 64 (v9 + v10)) (1 : Int)).toNat : Int))))))))
    else
    gO ((decide (v9 < (v0.length : Int))) = true → 0 ≤ v9 ∧ v9 < (v0.length : Int)) (
    ((bif ((decide (v9 < (v0.length : Int))) == true) then f2 (idx v0 v9) v1 else some default).bind fun (x_11 : Int) =>
    some (.inr (v9, ((decide (v9 < (v0.length : Int))) && (decide (x_11 = (0 : Int)))))))))
noncomputable def g_slices_BinarySearchFunc_api_Row_api_Row_api_Row (v0 : (List Row)) (v1 : Row) (f2 : Row → Row → Option Int) : Option (Int × Bool) := theC (step_slices_BinarySearchFunc_api_Row_api_Row_api_Row v0 v1 f2) .S
theorem sim_slices_BinarySearchFunc_api_Row_api_Row_api_Row (v0 : (List Row)) (v1 : Row) (f2 : Row → Row → Option Int) (fn2 : Nat) (cp2 : List D) (he2 : entersB Try.prog fn2 = true) (hf2 : ∀ y0 y1 r, f2 y0 y1 = some r → Fun Try.prog fn2 ([.agg (cRow y0), .agg (cRow y1)] ++ cp2) (.val (.int .i64 r))) (r : (Int × Bool)) (h : g_slices_BinarySearchFunc_api_Row_api_Row_api_Row v0 v1 f2 = some r) : Fun Try.prog 70 [.slice (v0.map eRow), .agg (cRow v1), .clo fn2 cp2] (.tuple [.val (.int .i64 (r.1)), .val (.bool (r.2))]) := by
  refine Fun.of_bodyQ Try.func70 rfl (by simp [Try.ntmps70]) ?_
  rw [Try.ntmps70, TT.res_70]
  refine QW.view (s' := ⟨tab [(0, .d (.slice (v0.map eRow))), (1, .d (.agg (cRow v1))), (2, .d (.clo fn2 cp2))], tabH [], 0, []⟩) (View.init (by rfl)) zL ?_
  replace h := theC_get h
  obtain ⟨_, h⟩ := h
  obtain ⟨k_0, rfl, h9⟩ := run_succ h; replace h := h9; clear h9; rw [step_slices_BinarySearchFunc_api_Row_api_Row_api_Row] at h
  refine sR ?_
  refine XK.fz (some 4) rfl rfl (sf_boxF (ds := cRow v1) rfl rfl rfl rfl toDs_map ?_)
  refine xa 6 (pI (0)) ?_
  refine xz 7 (pB false) ?_
  refine sR ?_
  refine xm 12 (.d (.slice (v0.map eRow))) ?_
  refine xs 13 rfl (sf_lenL (en := eRow) (l := v0) rfl TT.under_38 rfl ?_)
  refine xz 8 (pI (v0.length : Int)) ?_
  refine sR ?_
  refine xm 14 (pI (v0.length : Int)) ?_
  refine xa 9 (pI (0)) ?_
  refine xz 10 (pI (v0.length : Int)) ?_
  refine QW.seq ?_
  refine QW.block ?_
  refine QW.loop (fun k σ => ∃ v9 : Int, ∃ v10 : Int, k ≤ k_0 ∧ run (step_slices_BinarySearchFunc_api_Row_api_Row_api_Row v0 v1 f2) k (.L1 v9 v10) = some r ∧ σ = ⟨tab [(0, .d (.slice (v0.map eRow))), (2, .d (.clo fn2 cp2)), (4, .d (.cptr (cRow v1))), (8, pI (v0.length : Int)), (9, pI v9), (10, pI v10)], tabH [], 0, []⟩) k_0 zL ⟨⟨tab [(0, .d (.slice (v0.map eRow))), (2, .d (.clo fn2 cp2)), (4, .d (.cptr (cRow v1))), (8, pI (v0.length : Int)), (9, pI (0)), (10, pI (v0.length : Int))], tabH [], 0, []⟩, View.mk 0 [] _ _ _ rfl rfl (by decide) (iC (iC (iC (iC (iC (iC trivial)))))) trivial rfl zL rfl, 0, (v0.length : Int), Nat.le_refl _, jG h, rfl⟩ ?_
  rintro k_1s _ ⟨v9, v10, k_1h, h, rfl⟩
  obtain ⟨k_1, rfl, h9⟩ := run_succ h; replace h := h9; clear h9; rw [step_slices_BinarySearchFunc_api_Row_api_Row_api_Row] at h
  refine QW.seq ?_
  refine sR ?_
  refine xm 15 (pI v9) ?_
  refine xm 16 (pI v10) ?_
  refine xs 17 rfl (sf_lss (a := v9) (b := v10) rfl rfl rfl ?_)
  refine XK.nz ?_
  refine QW.cond (t := (decide (v9 < v10))) rfl zL (fun hb_2 => ?_) (fun hb_2 => ?_)
  · replace h := bGT h hb_2
    refine QW.skip zL (nrm ?_)
    refine QW.block ?_
    refine sR ?_
    refine xm 18 (pI v9) ?_
    refine xm 19 (pI v10) ?_
    obtain ⟨c_3, h⟩ := gG h
    refine xs 20 rfl (sf_add (a := v9) (b := v10) rfl rfl rfl c_3 ?_)
    refine xs 21 rfl (sf_toW (n := (v9 + v10)) rfl TT.under_3 TT.under_107 rfl ?_)
    refine xs 22 rfl (sf_wshr' (a := (BitVec.ofInt 64 (v9 + v10))) (c := (1 : Int)) rfl rfl rfl (by decide) ?_)
    obtain ⟨c_4, h⟩ := gG h
    refine xs 23 rfl (sf_toI (n := ((wshr (BitVec.ofInt 64 (v9 + v10)) (1 : Int)).toNat : Int)) rfl TT.under_107 TT.under_3 rfl c_4 ?_)
    refine xz 11 (pI ((wshr (BitVec.ofInt 64 (v9 + v10)) (1 : Int)).toNat : Int)) ?_
    refine QW.seq ?_
    refine QW.region zL (PW.regQ (id := 5) mixedX (M := _) rfl (by kernel_rfl) ?_)
    refine RQ.st (some 24) rfl rfl (sf_move (v := .d (.clo fn2 cp2)) rfl rfl ⟨⟨rfl, rfl⟩, ?_⟩)
    refine RQ.st (some 25) rfl rfl (sf_move (v := .d (.slice (v0.map eRow))) rfl rfl ⟨⟨rfl, rfl⟩, ?_⟩)
    refine RQ.st (some 26) rfl rfl (sf_move (v := pI ((wshr (BitVec.ofInt 64 (v9 + v10)) (1 : Int)).toNat : Int)) rfl rfl ⟨⟨rfl, rfl⟩, ?_⟩)
    obtain ⟨c_5, h⟩ := gG h
    refine RQ.st (some 27) rfl rfl (sf_idxA (l := v0) (i := ((wshr (BitVec.ofInt 64 (v9 + v10)) (1 : Int)).toNat : Int)) rfl TT.slcA_38 lay_Row rfl rfl c_5 ⟨⟨rfl, rfl⟩, ?_⟩)
    refine RQ.st (some 28) rfl rfl (sf_ldC (d := .agg (cRow (idx v0 ((wshr (BitVec.ofInt 64 (v9 + v10)) (1 : Int)).toNat : Int)))) rfl TT.tyA_44 rfl (⟨by rw [lay_Row.len]; decide, congrArg D.agg (List.take_of_length_le (by rw [lay_Row.len]; decide))⟩) ⟨⟨rfl, rfl⟩, ?_⟩)
    refine RQ.st (some 29) rfl rfl (sf_ldC (d := .agg (cRow v1)) rfl TT.tyA_44 rfl (⟨by rw [lay_Row.len]; decide, congrArg D.agg (List.take_of_length_le (by rw [lay_Row.len]; decide))⟩) ⟨⟨rfl, rfl⟩, ?_⟩)
    obtain ⟨x_6, hx_7, h⟩ := bG h
    refine RQ.st (some 30) rfl rfl (sf_clo rfl rfl rfl he2 rfl (hf2 (idx v0 ((wshr (BitVec.ofInt 64 (v9 + v10)) (1 : Int)).toNat : Int)) v1 _ hx_7) ⟨⟨rfl, rfl⟩, ?_⟩)
    refine RQ.st (some 31) rfl rfl (sf_lss (a := x_6) (b := (0 : Int)) rfl rfl rfl ⟨⟨rfl, rfl⟩, ?_⟩)
    refine RQ.nil (nrm ?_)
    refine QW.cond (t := (decide (x_6 < (0 : Int)))) rfl zL (fun hb_8 => ?_) (fun hb_8 => ?_)
    · replace h := bGT h hb_8
      refine rG ?_
      refine xm 32 (pI ((wshr (BitVec.ofInt 64 (v9 + v10)) (1 : Int)).toNat : Int)) ?_
      obtain ⟨c_9, h⟩ := gG h
      refine xs 33 rfl (sf_add (a := ((wshr (BitVec.ofInt 64 (v9 + v10)) (1 : Int)).toNat : Int)) (b := (1 : Int)) rfl rfl rfl c_9 ?_)
      refine xa 9 (pI (((wshr (BitVec.ofInt 64 (v9 + v10)) (1 : Int)).toNat : Int) + (1 : Int))) ?_
      refine XK.nil (blN (nrm ?_))
      exact ⟨k_1, by omega, ⟨tab [(0, .d (.slice (v0.map eRow))), (2, .d (.clo fn2 cp2)), (4, .d (.cptr (cRow v1))), (8, pI (v0.length : Int)), (9, pI (((wshr (BitVec.ofInt 64 (v9 + v10)) (1 : Int)).toNat : Int) + (1 : Int))), (10, pI v10)], tabH [], 0, []⟩, View.mk 0 [] _ _ _ rfl rfl (by decide) (iC (iC (iC (iC (iC (iC trivial)))))) trivial rfl zL rfl, (((wshr (BitVec.ofInt 64 (v9 + v10)) (1 : Int)).toNat : Int) + (1 : Int)), v10, by omega, jG h, rfl⟩
    · replace h := bGF h hb_8
      refine rG ?_
      refine xm 34 (pI ((wshr (BitVec.ofInt 64 (v9 + v10)) (1 : Int)).toNat : Int)) ?_
      refine xa 10 (pI ((wshr (BitVec.ofInt 64 (v9 + v10)) (1 : Int)).toNat : Int)) ?_
      refine XK.nil (blN (nrm ?_))
      exact ⟨k_1, by omega, ⟨tab [(0, .d (.slice (v0.map eRow))), (2, .d (.clo fn2 cp2)), (4, .d (.cptr (cRow v1))), (8, pI (v0.length : Int)), (9, pI v9), (10, pI ((wshr (BitVec.ofInt 64 (v9 + v10)) (1 : Int)).toNat : Int))], tabH [], 0, []⟩, View.mk 0 [] _ _ _ rfl rfl (by decide) (iC (iC (iC (iC (iC (iC trivial)))))) trivial rfl zL rfl, v9, ((wshr (BitVec.ofInt 64 (v9 + v10)) (1 : Int)).toNat : Int), by omega, jG h, rfl⟩
  · replace h := bGF h hb_2
    refine QW.exit zL (thX (thX (exE (nrm ?_))))
    refine QW.seq ?_
    refine QW.region zL (PW.regQ (id := 8) mixedX (M := _) rfl (by kernel_rfl) ?_)
    refine RQ.st (some 35) rfl rfl (sf_move (v := pI v9) rfl rfl ⟨⟨rfl, rfl⟩, ?_⟩)
    refine RQ.st (some 36) rfl rfl (sf_move (v := pI v9) rfl rfl ⟨⟨rfl, rfl⟩, ?_⟩)
    refine RQ.st (some 37) rfl rfl (sf_move (v := pI (v0.length : Int)) rfl rfl ⟨⟨rfl, rfl⟩, ?_⟩)
    refine RQ.st (some 38) rfl rfl (sf_lss (a := v9) (b := (v0.length : Int)) rfl rfl rfl ⟨⟨rfl, rfl⟩, ?_⟩)
    refine RQ.st (some 39) rfl rfl (sf_move (v := pB (decide (v9 < (v0.length : Int)))) rfl rfl ⟨⟨rfl, rfl⟩, ?_⟩)
    refine RQ.gd (v := .d (.clo fn2 cp2)) (T := []) (some 40) rfl rfl (by repeat (first | exact trivial | refine ⟨fun q => by first | rfl | exact q | exact cda q | exact cdb q, ?_⟩)) (fun hg => sf_move (v := .d (.clo fn2 cp2)) rfl rfl g3) nm0 ?_
    refine RQ.gd (v := .d (.slice (v0.map eRow))) (T := []) (some 41) rfl rfl (by repeat (first | exact trivial | refine ⟨fun q => by first | rfl | exact q | exact cda q | exact cdb q, ?_⟩)) (fun hg => sf_move (v := .d (.slice (v0.map eRow))) rfl rfl g3) nm0 ?_
    refine RQ.gd (v := pI v9) (T := []) (some 42) rfl rfl (by repeat (first | exact trivial | refine ⟨fun q => by first | rfl | exact q | exact cda q | exact cdb q, ?_⟩)) (fun hg => sf_move (v := pI v9) rfl rfl g3) nm0 ?_
    obtain ⟨c_10, h⟩ := gG h
    refine RQ.gd (v := .d (.cptr (cRow (idx v0 v9)))) (T := []) (some 43) rfl rfl (by repeat (first | exact trivial | refine ⟨fun q => by first | rfl | exact q | exact cda q | exact cdb q, ?_⟩)) (fun hg => sf_idxA (l := v0) (i := v9) rfl TT.slcA_38 lay_Row rfl rfl (c_10 (eqB hg)) g3) nm0 ?_
    refine RQ.gd (v := .d (.agg (cRow (idx v0 v9)))) (T := []) (some 44) rfl rfl (by repeat (first | exact trivial | refine ⟨fun q => by first | rfl | exact q | exact cda q | exact cdb q, ?_⟩)) (fun hg => sf_ldC (d := .agg (cRow (idx v0 v9))) rfl TT.tyA_44 rfl (⟨by rw [lay_Row.len]; decide, congrArg D.agg (List.take_of_length_le (by rw [lay_Row.len]; decide))⟩) g3) nm0 ?_
    refine RQ.gd (v := .d (.agg (cRow v1))) (T := []) (some 45) rfl rfl (by repeat (first | exact trivial | refine ⟨fun q => by first | rfl | exact q | exact cda q | exact cdb q, ?_⟩)) (fun hg => sf_ldC (d := .agg (cRow v1)) rfl TT.tyA_44 rfl (⟨by rw [lay_Row.len]; decide, congrArg D.agg (List.take_of_length_le (by rw [lay_Row.len]; decide))⟩) g3) nm0 ?_
    obtain ⟨x_11, hx_12, h⟩ := bG h
    refine RQ.gd (v := pI x_11) (T := []) (some 46) rfl rfl (by repeat (first | exact trivial | refine ⟨fun q => by first | rfl | exact q | exact cda q | exact cdb q, ?_⟩)) (fun hg => sf_clo rfl rfl rfl he2 rfl (hf2 (idx v0 v9) v1 _ (bT hx_12 hg)) g3) nm0 ?_
    refine RQ.gd (v := pB (decide (x_11 = (0 : Int)))) (T := []) (some 47) rfl rfl (by repeat (first | exact trivial | refine ⟨fun q => by first | rfl | exact q | exact cda q | exact cdb q, ?_⟩)) (fun hg => sf_eq (a := x_11) (b := (0 : Int)) rfl rfl rfl g3) nm0 ?_
    refine RQ.st (some 48) rfl rfl (sf_pickA rfl rfl rfl rfl (fun hb => by rw [hb]; rfl) (fun _ => rfl) ⟨⟨rfl, rfl⟩, ?_⟩)
    refine RQ.st (some 6) rfl rfl (sf_assign (v := pI v9) rfl rfl ⟨⟨rfl, rfl⟩, ?_⟩)
    refine RQ.st (some 7) rfl rfl (sf_assign (v := pB ((decide (v9 < (v0.length : Int))) && (decide (x_11 = (0 : Int))))) rfl rfl ⟨⟨rfl, rfl⟩, ?_⟩)
    refine RQ.nil (nrm ?_)
    refine QW.ret zL ?_
    obtain rfl := sG h
    exact Ends.more (.inr rfl) rfl (ps := [pI v9, pB ((decide (v9 < (v0.length : Int))) && (decide (x_11 = (0 : Int))))]) (And.intro (ResIs.tmp rfl) (And.intro (ResIs.tmp rfl) trivial)) rfl rfl
noncomputable def g_page_Find (rows0 : (List Row)) (x1 : (Arr 32 UInt8)) (epoch2 : Int) : Option (Int × Bool) :=
    ((g_slices_BinarySearchFunc_api_Row_api_Row_api_Row rows0 (⟨x1, epoch2, ([] : List UInt8)⟩ : Row) (fun y0 y1 => g_page_order y0 y1)).bind fun (x_1 : (Int × Bool)) =>
    some (x_1.1, x_1.2))
theorem sim_page_Find (rows0 : (List Row)) (x1 : (Arr 32 UInt8)) (epoch2 : Int) (r : (Int × Bool)) (h : g_page_Find rows0 x1 epoch2 = some r) : Fun Try.prog 56 [.slice (rows0.map eRow), .agg (x1.1.map byteD), .val (.int .i64 epoch2)] (.tuple [.val (.int .i64 (r.1)), .val (.bool (r.2))]) := by
  refine Fun.of_bodyQ Try.func56 rfl (by simp [Try.ntmps56]) ?_
  rw [Try.ntmps56, TT.res_56]
  refine QW.view (s' := ⟨tab [(0, .d (.slice (rows0.map eRow))), (1, .d (.agg (x1.1.map byteD))), (2, pI epoch2)], tabH [], 0, []⟩) (View.init (by rfl)) zL ?_
  unfold g_page_Find at h
  refine sR ?_
  refine XK.fz (some 4) rfl rfl (sf_boxF (ds := x1.1.map byteD) rfl rfl rfl rfl toDs_map ?_)
  refine xa 6 (pI (0)) ?_
  refine xz 7 (pB false) ?_
  refine sR ?_
  refine xm 8 (.d (.slice (rows0.map eRow))) ?_
  refine xs 9 rfl (sf_ldC (d := .agg (x1.1.map byteD)) rfl TT.tyA_41 rfl (ldc_all (by rw [List.length_map, x1.2])) ?_)
  refine xm 10 (pI epoch2) ?_
  refine XK.as (some 11) rfl rfl (sf_bld (v := .agg ((cRow (⟨x1, epoch2, ([] : List UInt8)⟩ : Row)).map .d)) rfl TT.bldA_44 (bld_Row_0_1 x1 epoch2) ⟨.d (.agg (cRow (⟨x1, epoch2, ([] : List UInt8)⟩ : Row))), imp_arr, ?_⟩)
  obtain ⟨x_1, hx_2, h⟩ := bO h
  refine xs 12 rfl (sf_call rfl rfl TT.enters_70 rfl (sim_slices_BinarySearchFunc_api_Row_api_Row_api_Row rows0 (⟨x1, epoch2, ([] : List UInt8)⟩ : Row) (fun y0 y1 => g_page_order y0 y1) 61 [] TT.enters_61 (fun y0 y1 _ h => sim_page_order y0 y1 _ h) _ hx_2) ?_)
  refine xs 13 rfl (sf_extract rfl rfl rfl ?_)
  refine xs 14 rfl (sf_extract rfl rfl rfl ?_)
  refine xa 6 (pI (x_1.1)) ?_
  refine xz 7 (pB (x_1.2)) ?_
  refine QW.ret zL ?_
  obtain rfl := sO h
  exact Ends.more (.inr rfl) rfl (ps := [pI (x_1.1), pB (x_1.2)]) (And.intro (ResIs.tmp rfl) (And.intro (ResIs.tmp rfl) trivial)) rfl rfl
noncomputable def g_slices_Clone_api_Row_api_Row (v0 : (List Row)) : Option (List Row) :=
    gO ((([] : List Row).length + v0.length) * 56 ≤ 140737488355328) (
    some (([] : List Row) ++ v0))
theorem sim_slices_Clone_api_Row_api_Row (v0 : (List Row)) (r : (List Row)) (h : g_slices_Clone_api_Row_api_Row v0 = some r) : Fun Try.prog 57 [.slice (v0.map eRow)] (.slice (r.map eRow)) := by
  refine Fun.of_bodyQ Try.func57 rfl (by simp [Try.ntmps57]) ?_
  rw [Try.ntmps57, TT.res_57]
  refine QW.view (s' := ⟨tab [(0, .d (.slice (v0.map eRow)))], tabH [], 0, []⟩) (View.init (by rfl)) zL ?_
  unfold g_slices_Clone_api_Row_api_Row at h
  refine sR ?_
  refine xz 2 (.full (([] : (List Row)).map eRow)) ?_
  refine QW.seq ?_
  refine sR ?_
  refine xm 3 (.d (.slice (v0.map eRow))) ?_
  refine XK.nt (l := v0) (some 4) rfl rfl rfl TT.under_38 rfl (fun e0 => ?_) ?_
  · refine XK.nz ?_
    refine QW.condT rfl ?_
    refine sR ?_
    refine xz 2 (.full (([] : (List Row)).map eRow)) ?_
    refine QW.ret zL (thR ?_)
    subst e0; obtain ⟨_, h⟩ := gO_get h; obtain rfl := sO h
    exact Ends.one (.inr rfl) rfl (ResIs.tmp rfl) rfl rfl
  · refine XK.nz ?_
    refine QW.condF rfl ?_
    refine QW.skip zL (nrm ?_)
    refine sR ?_
    refine xs 5 rfl (sf_row (en := eRow) (l := ([] : List Row)) rfl TT.rowA_38 lay_Row (by first | rfl | (simp only [List.map_cons, List.map_nil, eRow_eq]; rfl)) rfl (by decide) (by simp [solids, partsP, evP, ofVal, PV.solid, putS_at, tab, unS, unT, unC, asCond, Value.oneCell']) ?_)
    refine xm 6 (.d (.slice (v0.map eRow))) ?_
    obtain ⟨c_1, h⟩ := gO_get h
    refine xs 7 rfl (sf_appF (en := eRow) (l := ([] : List Row)) (l2 := v0) rfl TT.rowA_38 TT.under_38 rfl lay_Row rfl rfl ⟨c_1, fun _ => rfl⟩ (by decide) ?_)
    refine xz 2 (.own 0 ((([] : List Row) ++ v0).map eRow)) ?_
    refine QW.ret zL ?_
    obtain rfl := sO h
    exact Ends.one (.inr rfl) rfl (ResIs.tmp rfl) rfl rfl
noncomputable def g_page_Insert (rows0 : (List Row)) (r1 : Row) : Option ((List Row) × Bool) :=
    ((g_page_Find rows0 (r1.fSum) (r1.fEpoch)).bind fun (x_1 : (Int × Bool)) =>
    (bif x_1.2 then
    ((g_slices_Clone_api_Row_api_Row rows0).bind fun (x_4 : (List Row)) =>
    some (x_4, false))
    else
    gO (0 ≤ (0 : Int) ∧ (0 : Int) ≤ (x_1.1) ∧ (x_1.1) ≤ (rows0.length : Int)) (
    gO (0 ≤ (x_1.1) ∧ (x_1.1) ≤ (rows0.length : Int) ∧ (rows0.length : Int) ≤ (rows0.length : Int)) (
    ((g_slices_Concat_api_Row_api_Row ([(sub rows0 (0 : Int) (x_1.1)), ([r1] : List Row), (sub rows0 (x_1.1) (rows0.length : Int))] : List (List Row))).bind fun (x_8 : (List Row)) =>
    some (x_8, true))))))
theorem sim_page_Insert (rows0 : (List Row)) (r1 : Row) (r : ((List Row) × Bool)) (h : g_page_Insert rows0 r1 = some r) : Fun Try.prog 30 [.slice (rows0.map eRow), .agg (cRow r1)] (.tuple [.slice ((r.1).map eRow), .val (.bool (r.2))]) := by
  refine Fun.of_bodyQ Try.func30 rfl (by simp [Try.ntmps30]) ?_
  rw [Try.ntmps30, TT.res_30]
  refine QW.view (s' := ⟨tab [(0, .d (.slice (rows0.map eRow))), (1, .d (.agg (cRow r1)))], tabH [], 0, []⟩) (View.init (by rfl)) zL ?_
  unfold g_page_Insert at h
  refine sR ?_
  refine XK.fz (some 3) rfl rfl (sf_boxF (ds := cRow r1) rfl rfl rfl rfl toDs_map ?_)
  refine xa 4 (.full (([] : (List Row)).map eRow)) ?_
  refine xz 5 (pB false) ?_
  refine sR ?_
  refine xm 9 (.d (.slice (rows0.map eRow))) ?_
  refine xs 10 rfl (sf_fldC rfl TT.fldA_44_0 (by decide) rfl ?_)
  refine xs 11 rfl (sf_ldC (d := .agg ((r1.fSum).1.map byteD)) rfl TT.tyA_41 rfl (ldc_Row_0 _) ?_)
  refine xs 12 rfl (sf_fldC rfl TT.fldA_44_1 (by decide) rfl ?_)
  refine xs 13 rfl (sf_ldC (d := .val (.int .i64 (r1.fEpoch))) rfl TT.tyA_3 rfl (ldc_Row_1 _) ?_)
  obtain ⟨x_1, hx_2, h⟩ := bO h
  refine xs 14 rfl (sf_call rfl rfl TT.enters_56 rfl (sim_page_Find rows0 (r1.fSum) (r1.fEpoch) _ hx_2) ?_)
  refine xm 8 (.d (.tuple [.val (.int .i64 (x_1.1)), .val (.bool (x_1.2))])) ?_
  refine xs 15 rfl (sf_extract rfl rfl rfl ?_)
  refine xs 16 rfl (sf_extract rfl rfl rfl ?_)
  refine xa 6 (pI (x_1.1)) ?_
  refine xz 7 (pB (x_1.2)) ?_
  refine QW.seq ?_
  refine sR ?_
  refine xm 17 (pB (x_1.2)) ?_
  refine XK.nz ?_
  refine QW.cond (t := x_1.2) rfl zL (fun hb_3 => ?_) (fun hb_3 => ?_)
  · replace h := bT h hb_3
    refine sR ?_
    refine xm 18 (.d (.slice (rows0.map eRow))) ?_
    obtain ⟨x_4, hx_5, h⟩ := bO h
    refine xs 19 rfl (sf_call rfl rfl TT.enters_57 rfl (sim_slices_Clone_api_Row_api_Row rows0 _ hx_5) ?_)
    refine xa 4 (.d (.slice (x_4.map eRow))) ?_
    refine xz 5 (pB false) ?_
    refine QW.ret zL (thR ?_)
    obtain rfl := sO h
    exact Ends.more (.inr rfl) rfl (ps := [.d (.slice (x_4.map eRow)), pB false]) (And.intro (ResIs.tmp rfl) (And.intro (ResIs.tmp rfl) trivial)) rfl rfl
  · replace h := bF h hb_3
    refine QW.skip zL (nrm ?_)
    refine QW.seq ?_
    refine QW.region zL (PW.regQ (id := 4) mixedX (M := _) rfl (by kernel_rfl) ?_)
    refine RQ.st (some 20) rfl rfl (sf_move (v := .d (.slice (rows0.map eRow))) rfl rfl ⟨⟨rfl, rfl⟩, ?_⟩)
    refine RQ.st (some 21) rfl rfl (sf_move (v := pI (x_1.1)) rfl rfl ⟨⟨rfl, rfl⟩, ?_⟩)
    refine RQ.st (some 22) rfl rfl (sf_move (v := pI (x_1.1)) rfl rfl ⟨⟨rfl, rfl⟩, ?_⟩)
    obtain ⟨c_6, h⟩ := gO_get h
    refine RQ.st (some 23) rfl rfl (sf_subL3 (l := rows0) (a := (0 : Int)) (b := (x_1.1)) rfl TT.under_38 TT.slcA_38 lay_Row rfl rfl rfl rfl c_6 ⟨⟨rfl, rfl⟩, ?_⟩)
    refine RQ.st (some 24) rfl rfl (sf_ldC (d := .agg (cRow r1)) rfl TT.tyA_44 rfl (⟨by rw [lay_Row.len]; decide, congrArg D.agg (List.take_of_length_le (by rw [lay_Row.len]; decide))⟩) ⟨⟨rfl, rfl⟩, ?_⟩)
    refine RQ.st (some 25) rfl rfl (sf_row (en := eRow) (l := ([r1] : List Row)) rfl TT.rowA_38 lay_Row (by first | rfl | (simp only [List.map_cons, List.map_nil, eRow_eq]; rfl)) rfl (by decide) (by simp [solids, partsP, evP, ofVal, PV.solid, putS_at, tab, unS, unT, unC, asCond, Value.oneCell']) ⟨⟨rfl, rfl⟩, ?_⟩)
    refine RQ.st (some 26) rfl rfl (sf_move (v := .d (.slice (rows0.map eRow))) rfl rfl ⟨⟨rfl, rfl⟩, ?_⟩)
    refine RQ.st (some 27) rfl rfl (sf_move (v := pI (x_1.1)) rfl rfl ⟨⟨rfl, rfl⟩, ?_⟩)
    obtain ⟨c_7, h⟩ := gO_get h
    refine RQ.st (some 28) rfl rfl (sf_subL (l := rows0) (a := (x_1.1)) (b := (rows0.length : Int)) rfl TT.under_38 TT.slcA_38 lay_Row rfl rfl rfl c_7 ⟨⟨rfl, rfl⟩, ?_⟩)
    refine RQ.st (some 29) rfl rfl (sf_row (en := (eL eRow)) (l := ([(sub rows0 (0 : Int) (x_1.1)), ([r1] : List Row), (sub rows0 (x_1.1) (rows0.length : Int))] : List (List Row))) rfl TT.rowA_24 lay_L rfl rfl (by decide) (by simp [solids, partsP, evP, ofVal, PV.solid, putS_at, tab, unS, unT, unC, asCond, Value.oneCell']) ⟨⟨rfl, rfl⟩, ?_⟩)
    obtain ⟨x_8, hx_9, h⟩ := bO h
    refine RQ.st (some 30) rfl rfl (sf_call rfl rfl TT.enters_20 rfl (sim_slices_Concat_api_Row_api_Row ([(sub rows0 (0 : Int) (x_1.1)), ([r1] : List Row), (sub rows0 (x_1.1) (rows0.length : Int))] : List (List Row)) _ hx_9) ⟨⟨rfl, rfl⟩, ?_⟩)
    refine RQ.st (some 4) rfl rfl (sf_assign (v := .d (.slice (x_8.map eRow))) rfl rfl ⟨⟨rfl, rfl⟩, ?_⟩)
    refine RQ.st (some 5) rfl rfl (sf_assign (v := pB true) rfl rfl ⟨⟨rfl, rfl⟩, ?_⟩)
    refine RQ.nil (nrm ?_)
    refine QW.ret zL ?_
    obtain rfl := sO h
    exact Ends.more (.inr rfl) rfl (ps := [.d (.slice (x_8.map eRow)), pB true]) (And.intro (ResIs.tmp rfl) (And.intro (ResIs.tmp rfl) trivial)) rfl rfl
noncomputable def g_page_Split (rows0 : (List Row)) : Option ((List Row) × (List Row)) :=
    gO ((2 : Int) ≠ 0 ∧ inI ((rows0.length : Int).tdiv (2 : Int))) (
    gO (inI ((rows0.length : Int) - ((rows0.length : Int).tdiv (2 : Int)))) (
    gO (0 ≤ (0 : Int) ∧ (0 : Int) ≤ ((rows0.length : Int) - ((rows0.length : Int).tdiv (2 : Int))) ∧ ((rows0.length : Int) - ((rows0.length : Int).tdiv (2 : Int))) ≤ (rows0.length : Int)) (
    ((g_slices_Clone_api_Row_api_Row (sub rows0 (0 : Int) ((rows0.length : Int) - ((rows0.length : Int).tdiv (2 : Int))))).bind fun (x_4 : (List Row)) =>
    gO (0 ≤ ((rows0.length : Int) - ((rows0.length : Int).tdiv (2 : Int))) ∧ ((rows0.length : Int) - ((rows0.length : Int).tdiv (2 : Int))) ≤ (rows0.length : Int) ∧ (rows0.length : Int) ≤ (rows0.length : Int)) (
    ((g_slices_Clone_api_Row_api_Row (sub rows0 ((rows0.length : Int) - ((rows0.length : Int).tdiv (2 : Int))) (rows0.length : Int))).bind fun (x_7 : (List Row)) =>
    some (x_4, x_7)))))))
theorem sim_page_Split (rows0 : (List Row)) (r : ((List Row) × (List Row))) (h : g_page_Split rows0 = some r) : Fun Try.prog 31 [.slice (rows0.map eRow)] (.tuple [.slice ((r.1).map eRow), .slice ((r.2).map eRow)]) := by
  refine Fun.of_bodyQ Try.func31 rfl (by simp [Try.ntmps31]) ?_
  rw [Try.ntmps31, TT.res_31]
  refine QW.view (s' := ⟨tab [(0, .d (.slice (rows0.map eRow)))], tabH [], 0, []⟩) (View.init (by rfl)) zL ?_
  unfold g_page_Split at h
  refine sR ?_
  refine xa 2 (.full (([] : (List Row)).map eRow)) ?_
  refine xz 3 (.full (([] : (List Row)).map eRow)) ?_
  refine sR ?_
  refine xm 5 (.d (.slice (rows0.map eRow))) ?_
  refine xs 6 rfl (sf_lenL (en := eRow) (l := rows0) rfl TT.under_38 rfl ?_)
  refine xm 7 (.d (.slice (rows0.map eRow))) ?_
  refine xs 8 rfl (sf_lenL (en := eRow) (l := rows0) rfl TT.under_38 rfl ?_)
  obtain ⟨c_1, h⟩ := gO_get h
  refine xs 9 rfl (sf_quo (a := (rows0.length : Int)) (b := (2 : Int)) rfl rfl rfl c_1 ?_)
  obtain ⟨c_2, h⟩ := gO_get h
  refine xs 10 rfl (sf_sub (a := (rows0.length : Int)) (b := ((rows0.length : Int).tdiv (2 : Int))) rfl rfl rfl c_2 ?_)
  refine xz 4 (pI ((rows0.length : Int) - ((rows0.length : Int).tdiv (2 : Int)))) ?_
  refine QW.seq ?_
  refine QW.region zL (PW.regQ (id := 2) mixedX (M := _) rfl (by kernel_rfl) ?_)
  refine RQ.st (some 11) rfl rfl (sf_move (v := .d (.slice (rows0.map eRow))) rfl rfl ⟨⟨rfl, rfl⟩, ?_⟩)
  refine RQ.st (some 12) rfl rfl (sf_move (v := pI ((rows0.length : Int) - ((rows0.length : Int).tdiv (2 : Int)))) rfl rfl ⟨⟨rfl, rfl⟩, ?_⟩)
  refine RQ.st (some 13) rfl rfl (sf_move (v := pI ((rows0.length : Int) - ((rows0.length : Int).tdiv (2 : Int)))) rfl rfl ⟨⟨rfl, rfl⟩, ?_⟩)
  obtain ⟨c_3, h⟩ := gO_get h
  refine RQ.st (some 14) rfl rfl (sf_subL3 (l := rows0) (a := (0 : Int)) (b := ((rows0.length : Int) - ((rows0.length : Int).tdiv (2 : Int)))) rfl TT.under_38 TT.slcA_38 lay_Row rfl rfl rfl rfl c_3 ⟨⟨rfl, rfl⟩, ?_⟩)
  obtain ⟨x_4, hx_5, h⟩ := bO h
  refine RQ.st (some 15) rfl rfl (sf_call rfl rfl TT.enters_57 rfl (sim_slices_Clone_api_Row_api_Row (sub rows0 (0 : Int) ((rows0.length : Int) - ((rows0.length : Int).tdiv (2 : Int)))) _ hx_5) ⟨⟨rfl, rfl⟩, ?_⟩)
  refine RQ.st (some 16) rfl rfl (sf_move (v := .d (.slice (rows0.map eRow))) rfl rfl ⟨⟨rfl, rfl⟩, ?_⟩)
  refine RQ.st (some 17) rfl rfl (sf_move (v := pI ((rows0.length : Int) - ((rows0.length : Int).tdiv (2 : Int)))) rfl rfl ⟨⟨rfl, rfl⟩, ?_⟩)
  obtain ⟨c_6, h⟩ := gO_get h
  refine RQ.st (some 18) rfl rfl (sf_subL (l := rows0) (a := ((rows0.length : Int) - ((rows0.length : Int).tdiv (2 : Int)))) (b := (rows0.length : Int)) rfl TT.under_38 TT.slcA_38 lay_Row rfl rfl rfl c_6 ⟨⟨rfl, rfl⟩, ?_⟩)
  obtain ⟨x_7, hx_8, h⟩ := bO h
  refine RQ.st (some 19) rfl rfl (sf_call rfl rfl TT.enters_57 rfl (sim_slices_Clone_api_Row_api_Row (sub rows0 ((rows0.length : Int) - ((rows0.length : Int).tdiv (2 : Int))) (rows0.length : Int)) _ hx_8) ⟨⟨rfl, rfl⟩, ?_⟩)
  refine RQ.st (some 2) rfl rfl (sf_assign (v := .d (.slice (x_4.map eRow))) rfl rfl ⟨⟨rfl, rfl⟩, ?_⟩)
  refine RQ.st (some 3) rfl rfl (sf_assign (v := .d (.slice (x_7.map eRow))) rfl rfl ⟨⟨rfl, rfl⟩, ?_⟩)
  refine RQ.nil (nrm ?_)
  refine QW.ret zL ?_
  obtain rfl := sO h
  exact Ends.more (.inr rfl) rfl (ps := [.d (.slice (x_4.map eRow)), .d (.slice (x_7.map eRow))]) (And.intro (ResIs.tmp rfl) (And.intro (ResIs.tmp rfl) trivial)) rfl rfl
noncomputable def g_page_Remove (rows0 : (List Row)) (i1 : Int) : Option (List Row) :=
    (bif ((decide (i1 < (0 : Int))) || (decide ((rows0.length : Int) ≤ i1))) then
    ((g_slices_Clone_api_Row_api_Row rows0).bind fun (x_2 : (List Row)) =>
    some x_2)
    else
    gO (0 ≤ (0 : Int) ∧ (0 : Int) ≤ i1 ∧ i1 ≤ (rows0.length : Int)) (
    gO (inI (i1 + (1 : Int))) (
    gO (0 ≤ (i1 + (1 : Int)) ∧ (i1 + (1 : Int)) ≤ (rows0.length : Int) ∧ (rows0.length : Int) ≤ (rows0.length : Int)) (
    ((g_slices_Concat_api_Row_api_Row ([(sub rows0 (0 : Int) i1), (sub rows0 (i1 + (1 : Int)) (rows0.length : Int))] : List (List Row))).bind fun (x_7 : (List Row)) =>
    some x_7)))))
theorem sim_page_Remove (rows0 : (List Row)) (i1 : Int) (r : (List Row)) (h : g_page_Remove rows0 i1 = some r) : Fun Try.prog 44 [.slice (rows0.map eRow), .val (.int .i64 i1)] (.slice (r.map eRow)) := by
  refine Fun.of_bodyQ Try.func44 rfl (by simp [Try.ntmps44]) ?_
  rw [Try.ntmps44, TT.res_44]
  refine QW.view (s' := ⟨tab [(0, .d (.slice (rows0.map eRow))), (1, pI i1)], tabH [], 0, []⟩) (View.init (by rfl)) zL ?_
  unfold g_page_Remove at h
  refine sR ?_
  refine xz 4 (.full (([] : (List Row)).map eRow)) ?_
  refine QW.seq ?_
  refine sR ?_
  refine xm 5 (pI i1) ?_
  refine xs 6 rfl (sf_lss (a := i1) (b := (0 : Int)) rfl rfl rfl ?_)
  refine xm 7 (pB (decide (i1 < (0 : Int)))) ?_
  refine xg 8 (pI i1) rfl rfl (fun hg => sf_move (v := pI i1) rfl rfl g3) ?_
  refine xg 9 (.d (.slice (rows0.map eRow))) rfl rfl (fun hg => sf_move (v := .d (.slice (rows0.map eRow))) rfl rfl g3) ?_
  refine xg 10 (pI (rows0.length : Int)) rfl rfl (fun hg => sf_lenL (en := eRow) (l := rows0) rfl TT.under_38 rfl g3) ?_
  refine xg 11 (pB (decide ((rows0.length : Int) ≤ i1))) rfl rfl (fun hg => sf_geq (a := i1) (b := (rows0.length : Int)) rfl rfl rfl g3) ?_
  refine xs 12 rfl (sf_pickO rfl rfl rfl rfl (fun _ => rfl) (fun hb => by rw [hb]; rfl) ?_)
  refine XK.nz ?_
  refine QW.cond (t := ((decide (i1 < (0 : Int))) || (decide ((rows0.length : Int) ≤ i1)))) rfl zL (fun hb_1 => ?_) (fun hb_1 => ?_)
  · replace h := bT h hb_1
    refine sR ?_
    refine xm 13 (.d (.slice (rows0.map eRow))) ?_
    obtain ⟨x_2, hx_3, h⟩ := bO h
    refine xs 14 rfl (sf_call rfl rfl TT.enters_57 rfl (sim_slices_Clone_api_Row_api_Row rows0 _ hx_3) ?_)
    refine xz 4 (.d (.slice (x_2.map eRow))) ?_
    refine QW.ret zL (thR ?_)
    obtain rfl := sO h
    exact Ends.one (.inr rfl) rfl (ResIs.tmp rfl) rfl rfl
  · replace h := bF h hb_1
    refine QW.skip zL (nrm ?_)
    refine QW.seq ?_
    refine QW.region zL (PW.regQ (id := 3) mixedX (M := _) rfl (by kernel_rfl) ?_)
    refine RQ.st (some 15) rfl rfl (sf_move (v := .d (.slice (rows0.map eRow))) rfl rfl ⟨⟨rfl, rfl⟩, ?_⟩)
    refine RQ.st (some 16) rfl rfl (sf_move (v := pI i1) rfl rfl ⟨⟨rfl, rfl⟩, ?_⟩)
    refine RQ.st (some 17) rfl rfl (sf_move (v := pI i1) rfl rfl ⟨⟨rfl, rfl⟩, ?_⟩)
    obtain ⟨c_4, h⟩ := gO_get h
    refine RQ.st (some 18) rfl rfl (sf_subL3 (l := rows0) (a := (0 : Int)) (b := i1) rfl TT.under_38 TT.slcA_38 lay_Row rfl rfl rfl rfl c_4 ⟨⟨rfl, rfl⟩, ?_⟩)
    refine RQ.st (some 19) rfl rfl (sf_move (v := .d (.slice (rows0.map eRow))) rfl rfl ⟨⟨rfl, rfl⟩, ?_⟩)
    refine RQ.st (some 20) rfl rfl (sf_move (v := pI i1) rfl rfl ⟨⟨rfl, rfl⟩, ?_⟩)
    obtain ⟨c_5, h⟩ := gO_get h
    refine RQ.st (some 21) rfl rfl (sf_add (a := i1) (b := (1 : Int)) rfl rfl rfl c_5 ⟨⟨rfl, rfl⟩, ?_⟩)
    obtain ⟨c_6, h⟩ := gO_get h
    refine RQ.st (some 22) rfl rfl (sf_subL (l := rows0) (a := (i1 + (1 : Int))) (b := (rows0.length : Int)) rfl TT.under_38 TT.slcA_38 lay_Row rfl rfl rfl c_6 ⟨⟨rfl, rfl⟩, ?_⟩)
    refine RQ.st (some 23) rfl rfl (sf_row (en := (eL eRow)) (l := ([(sub rows0 (0 : Int) i1), (sub rows0 (i1 + (1 : Int)) (rows0.length : Int))] : List (List Row))) rfl TT.rowA_24 lay_L rfl rfl (by decide) (by simp [solids, partsP, evP, ofVal, PV.solid, putS_at, tab, unS, unT, unC, asCond, Value.oneCell']) ⟨⟨rfl, rfl⟩, ?_⟩)
    obtain ⟨x_7, hx_8, h⟩ := bO h
    refine RQ.st (some 24) rfl rfl (sf_call rfl rfl TT.enters_20 rfl (sim_slices_Concat_api_Row_api_Row ([(sub rows0 (0 : Int) i1), (sub rows0 (i1 + (1 : Int)) (rows0.length : Int))] : List (List Row)) _ hx_8) ⟨⟨rfl, rfl⟩, ?_⟩)
    refine RQ.st (some 4) rfl rfl (sf_assign (v := .d (.slice (x_7.map eRow))) rfl rfl ⟨⟨rfl, rfl⟩, ?_⟩)
    refine RQ.nil (nrm ?_)
    refine QW.ret zL ?_
    obtain rfl := sO h
    exact Ends.one (.inr rfl) rfl (ResIs.tmp rfl) rfl rfl
inductive C_page_Put where
  | S
  | L1 (v5_2 : (List UInt8)) (v19 : Int)
noncomputable def step_page_Put (rows0 : (List Row)) : C_page_Put → Option (C_page_Put ⊕ ((List UInt8) × Int))
  | .S =>
    ((g_page_Check rows0).bind fun (x_1 : Int) =>
    (bif (!decide (x_1 = (0 : Int))) then
    some (.inr (([] : List UInt8), x_1))
    else
    ((g_wide_Num (BitVec.ofInt 64 (rows0.length : Int)) (1)).bind fun (x_4 : (List UInt8)) =>
    some (.inl (.L1 x_4 (0))))))
  | .L1 v5_2 v19 =>
    (bif (decide (v19 < (rows0.length : Int))) then
    gO (0 ≤ v19 ∧ v19 < (rows0.length : Int)) (
    ((g_wide_Num (BitVec.ofInt 64 ((idx rows0 v19).fEpoch)) (4)).bind fun (x_9 : (List UInt8)) =>
    gO (((idx rows0 v19).fSum.1).length + x_9.length ≤ 9223372036854775807) (
    ((g_wide_Texts ([(idx rows0 v19).fBody] : List (List UInt8))).bind fun (x_12 : (List UInt8)) =>
    gO (((idx rows0 v19).fSum.1 ++ x_9).length + x_12.length ≤ 9223372036854775807) (
    gO (v5_2.length + (((idx rows0 v19).fSum.1 ++ x_9) ++ x_12).length ≤ 9223372036854775807) (
    gO (inI (v19 + (1 : Int))) (
    some (.inl (.L1 (v5_2 ++ (((idx rows0 v19).fSum.1 ++ x_9) ++ x_12)) (v19 + (1 : Int)))))))))))
    else
    some (.inr (v5_2, 0)))
noncomputable def g_page_Put (rows0 : (List Row)) : Option ((List UInt8) × Int) := theC (step_page_Put rows0) .S
theorem sim_page_Put (rows0 : (List Row)) (r : ((List UInt8) × Int)) (h : g_page_Put rows0 = some r) : Fun Try.prog 17 [.slice (rows0.map eRow)] (.tuple [.val (sV (r.1)), .val (.int .i64 (r.2))]) := by
  refine Fun.of_bodyQ Try.func17 rfl (by simp [Try.ntmps17]) ?_
  rw [Try.ntmps17, TT.res_17]
  refine QW.view (s' := ⟨tab [(0, .d (.slice (rows0.map eRow)))], tabH [], 0, []⟩) (View.init (by rfl)) zL ?_
  replace h := theC_get h
  obtain ⟨_, h⟩ := h
  obtain ⟨k_0, rfl, h9⟩ := run_succ h; replace h := h9; clear h9; rw [step_page_Put] at h
  refine sR ?_
  refine xa 2 (pS ([] : List UInt8)) ?_
  refine xz 3 (pI (0)) ?_
  refine QW.seq ?_
  refine sR ?_
  refine xm 8 (.d (.slice (rows0.map eRow))) ?_
  obtain ⟨x_1, hx_2, h⟩ := bG h
  refine xs 9 rfl (sf_call rfl rfl TT.enters_27 rfl (sim_page_Check rows0 _ hx_2) ?_)
  refine xz 4 (pI x_1) ?_
  refine sR ?_
  refine xm 10 (pI x_1) ?_
  refine xs 11 rfl (sf_ne (a := x_1) (b := (0 : Int)) rfl rfl rfl ?_)
  refine XK.nz ?_
  refine QW.cond (t := (!decide (x_1 = (0 : Int)))) rfl zL (fun hb_3 => ?_) (fun hb_3 => ?_)
  · replace h := bGT h hb_3
    refine sR ?_
    refine xm 12 (pI x_1) ?_
    refine xa 2 (pS ([] : List UInt8)) ?_
    refine xz 3 (pI x_1) ?_
    refine QW.ret zL (thR ?_)
    obtain rfl := sG h
    exact Ends.more (.inr rfl) rfl (ps := [pS ([] : List UInt8), pI x_1]) (And.intro (ResIs.tmp rfl) (And.intro (ResIs.tmp rfl) trivial)) rfl rfl
  · replace h := bGF h hb_3
    refine QW.skip zL (nrm ?_)
    refine sR ?_
    refine xm 13 (.d (.slice (rows0.map eRow))) ?_
    refine xs 14 rfl (sf_lenL (en := eRow) (l := rows0) rfl TT.under_38 rfl ?_)
    refine xs 15 rfl (sf_toW (n := (rows0.length : Int)) rfl TT.under_3 TT.under_77 rfl ?_)
    obtain ⟨x_4, hx_5, h⟩ := bG h
    refine xs 16 rfl (sf_call rfl rfl TT.enters_32 rfl (sim_wide_Num (BitVec.ofInt 64 (rows0.length : Int)) (1) _ hx_5) ?_)
    refine xz 5 (pS x_4) ?_
    refine QW.seq ?_
    refine sR ?_
    refine xm 17 (.d (.slice (rows0.map eRow))) ?_
    refine xs 18 rfl (sf_lenL (en := eRow) (l := rows0) rfl TT.under_38 rfl ?_)
    refine xm 19 (pI (0)) ?_
    refine XK.nz ?_
    refine QW.block ?_
    refine QW.loop (fun k σ => ∃ v5_2 : (List UInt8), ∃ v19 : Int, k ≤ k_0 ∧ run (step_page_Put rows0) k (.L1 v5_2 v19) = some r ∧ σ = ⟨tab [(5, pS v5_2), (17, .d (.slice (rows0.map eRow))), (18, pI (rows0.length : Int)), (19, pI v19)], tabH [], 0, []⟩) k_0 zL ⟨⟨tab [(5, pS x_4), (17, .d (.slice (rows0.map eRow))), (18, pI (rows0.length : Int)), (19, pI (0))], tabH [], 0, []⟩, View.mk 0 [] _ _ _ rfl rfl (by decide) (iC (iC (iC (iC trivial)))) trivial rfl zL rfl, x_4, 0, Nat.le_refl _, jG h, rfl⟩ ?_
    rintro k_6s _ ⟨v5_2, v19, k_6h, h, rfl⟩
    obtain ⟨k_6, rfl, h9⟩ := run_succ h; replace h := h9; clear h9; rw [step_page_Put] at h
    refine sR ?_
    refine xs 20 rfl (sf_lss (a := v19) (b := (rows0.length : Int)) rfl rfl rfl ?_)
    refine XK.nz ?_
    refine QW.seq ?_
    refine QW.cond (t := (decide (v19 < (rows0.length : Int)))) rfl zL (fun hb_7 => ?_) (fun hb_7 => ?_)
    · replace h := bGT h hb_7
      refine QW.skip zL (nrm ?_)
      refine QW.seq ?_
      refine QW.block ?_
      refine sR ?_
      obtain ⟨c_8, h⟩ := gG h
      refine xs 21 rfl (sf_idxA (l := rows0) (i := v19) rfl TT.slcA_38 lay_Row rfl rfl c_8 ?_)
      refine xs 22 rfl (sf_ldC (d := .agg (cRow (idx rows0 v19))) rfl TT.tyA_44 rfl (⟨by rw [lay_Row.len]; decide, congrArg D.agg (List.take_of_length_le (by rw [lay_Row.len]; decide))⟩) ?_)
      refine xs 7 rfl (sf_alloc (l := ((cRow (⟨(Arr.rep 32 (0 : UInt8)), (0 : Int), ([] : (List UInt8))⟩ : Row)).map .d)) rfl TT.zeroA_44 rfl rfl ?_)
      refine XK.st none rfl rfl (sf_stV (l' := ((cRow (idx rows0 v19)).map .d)) rfl TT.tyA_44 rfl rfl rfl rfl rfl (len_dd (lay_Row.len _)) (le_dd (lay_Row.len _)) (spl_dd ((lay_Row.len _).trans (lay_Row.len _).symm)) ?_)
      refine XK.nz ?_
      refine QW.region zL (PW.regQ (id := 8) mixedX (M := _) rfl (by kernel_rfl) ?_)
      refine RQ.st (some 23) rfl rfl (sf_move (v := pS v5_2) rfl rfl ⟨⟨rfl, rfl⟩, ?_⟩)
      refine RQ.st (some 24) rfl rfl (sf_fldV rfl TT.fldA_44_0 (by decide) rfl ⟨⟨rfl, rfl⟩, ?_⟩)
      refine RQ.so (some 25) rfl rfl (so_slV (p := (0 : Int)) (q := ((32 : Nat) : Int)) rfl TT.arrA_41 rfl rfl rfl (by decide) ⟨⟨rfl, rfl⟩, ?_⟩)
      refine RQ.so (some 26) rfl rfl (so_v2s (bs := (idx rows0 v19).fSum.1) rfl TT.under_78 TT.under_5 TT.under_9 rfl rfl (v2s_pre (pre_Row_0 _)) v2s_len ⟨⟨rfl, rfl⟩, ?_⟩)
      refine RQ.st (some 27) rfl rfl (sf_fldV rfl TT.fldA_44_1 (by decide) rfl ⟨⟨rfl, rfl⟩, ?_⟩)
      refine RQ.st (some 28) rfl rfl (sf_ldV (v := pI ((idx rows0 v19).fEpoch)) rfl TT.tyA_3 rfl rfl (ldv_ldc (ldc_Row_1 _) (by rw [lay_Row.len]; decide) (by decide)) ⟨⟨rfl, rfl⟩, ?_⟩)
      refine RQ.st (some 29) rfl rfl (sf_toW (n := ((idx rows0 v19).fEpoch)) rfl TT.under_3 TT.under_77 rfl ⟨⟨rfl, rfl⟩, ?_⟩)
      obtain ⟨x_9, hx_10, h⟩ := bG h
      refine RQ.st (some 30) rfl rfl (sf_call rfl rfl TT.enters_32 rfl (sim_wide_Num (BitVec.ofInt 64 ((idx rows0 v19).fEpoch)) (4) _ hx_10) ⟨⟨rfl, rfl⟩, ?_⟩)
      obtain ⟨c_11, h⟩ := gG h
      refine RQ.st (some 31) rfl rfl (sf_cat (a := (idx rows0 v19).fSum.1) (b := x_9) rfl rfl rfl c_11 ⟨⟨rfl, rfl⟩, ?_⟩)
      refine RQ.st (some 32) rfl rfl (sf_fldV rfl TT.fldA_44_2 (by decide) rfl ⟨⟨rfl, rfl⟩, ?_⟩)
      refine RQ.st (some 33) rfl rfl (sf_ldV (v := pS ((idx rows0 v19).fBody)) rfl TT.tyA_9 rfl rfl (ldv_ldc (ldc_Row_2 _) (by rw [lay_Row.len]; decide) (by decide)) ⟨⟨rfl, rfl⟩, ?_⟩)
      refine RQ.st (some 34) rfl rfl (sf_row (en := eS) (l := ([(idx rows0 v19).fBody] : List (List UInt8))) rfl TT.rowA_56 lay_S rfl rfl (by decide) (by simp [solids, partsP, evP, ofVal, PV.solid, putS_at, tab, unS, unT, unC, asCond, Value.oneCell']) ⟨⟨rfl, rfl⟩, ?_⟩)
      obtain ⟨x_12, hx_13, h⟩ := bG h
      refine RQ.st (some 35) rfl rfl (sf_call rfl rfl TT.enters_18 rfl (sim_wide_Texts ([(idx rows0 v19).fBody] : List (List UInt8)) _ hx_13) ⟨⟨rfl, rfl⟩, ?_⟩)
      obtain ⟨c_14, h⟩ := gG h
      refine RQ.st (some 36) rfl rfl (sf_cat (a := ((idx rows0 v19).fSum.1 ++ x_9)) (b := x_12) rfl rfl rfl c_14 ⟨⟨rfl, rfl⟩, ?_⟩)
      obtain ⟨c_15, h⟩ := gG h
      refine RQ.st (some 37) rfl rfl (sf_cat (a := v5_2) (b := (((idx rows0 v19).fSum.1 ++ x_9) ++ x_12)) rfl rfl rfl c_15 ⟨⟨rfl, rfl⟩, ?_⟩)
      refine RQ.st (some 5) rfl rfl (sf_assign (v := pS (v5_2 ++ (((idx rows0 v19).fSum.1 ++ x_9) ++ x_12))) rfl rfl ⟨⟨rfl, rfl⟩, ?_⟩)
      refine RQ.nil (blN (nrm ?_))
      refine QW.view (s' := ⟨tab [(5, pS (v5_2 ++ (((idx rows0 v19).fSum.1 ++ x_9) ++ x_12))), (17, .d (.slice (rows0.map eRow))), (18, pI (rows0.length : Int)), (19, pI v19)], tabH [], 0, []⟩) (View.mk 0 [] _ _ _ rfl rfl (by decide) (iC (iC (iC (iC trivial)))) trivial rfl zL rfl) zL ?_
      refine rG ?_
      obtain ⟨c_16, h⟩ := gG h
      refine xs 38 rfl (sf_add (a := v19) (b := (1 : Int)) rfl rfl rfl c_16 ?_)
      refine xm 19 (pI (v19 + (1 : Int))) ?_
      refine XK.nz ?_
      exact ⟨k_6, by omega, ⟨tab [(5, pS (v5_2 ++ (((idx rows0 v19).fSum.1 ++ x_9) ++ x_12))), (17, .d (.slice (rows0.map eRow))), (18, pI (rows0.length : Int)), (19, pI (v19 + (1 : Int)))], tabH [], 0, []⟩, View.mk 0 [] _ _ _ rfl rfl (by decide) (iC (iC (iC (iC trivial)))) trivial rfl zL rfl, (v5_2 ++ (((idx rows0 v19).fSum.1 ++ x_9) ++ x_12)), (v19 + (1 : Int)), by omega, jG h, rfl⟩
    · replace h := bGF h hb_7
      refine QW.exit zL (thX (thX (exE (nrm ?_))))
      refine sR ?_
      refine xm 39 (pS v5_2) ?_
      refine xa 2 (pS v5_2) ?_
      refine xz 3 (pI (0)) ?_
      refine QW.ret zL ?_
      obtain rfl := sG h
      exact Ends.more (.inr rfl) rfl (ps := [pS v5_2, pI (0)]) (And.intro (ResIs.tmp rfl) (And.intro (ResIs.tmp rfl) trivial)) rfl rfl
noncomputable def g_page_Get_1 (v0 : Cut) : Option (Row × Cut) :=
    ((g_wide_Cut_Take (32) v0).bind fun (q_3 : ((List UInt8) × Cut)) =>
    gO ((q_3.1).length ≤ 32) (
    ((g_wide_Cut_Num (4) (q_3.2)).bind fun (q_7 : ((BitVec 64) × Cut)) =>
    gO (inI ((q_7.1).toNat : Int)) (
    ((g_wide_Cut_Text (q_7.2)).bind fun (q_11 : ((List UInt8) × Cut)) =>
    some (({ ({ ({ (⟨(Arr.rep 32 (0 : UInt8)), (0 : Int), ([] : (List UInt8))⟩ : Row) with fSum := ((⟨(Arr.rep 32 (0 : UInt8)), (0 : Int), ([] : (List UInt8))⟩ : Row).fSum).over (q_3.1) } : Row) with fEpoch := ((q_7.1).toNat : Int) } : Row) with fBody := (q_11.1) } : Row), (q_11.2)))))))
theorem sim_page_Get_1 (v0 : Cut) (r : (Row × Cut)) (h : g_page_Get_1 v0 = some r) : Spec Try.prog 60 [.vptr 0 0] (tabH [.var [.vptr 1 0], .var [pS (v0.fs), pI (v0.fe)]]) 2 (postX (.ret (.agg ((cRow (r.1)).map .d))) (tabH [.var [.vptr 1 0], .var [pS ((r.2).fs), pI ((r.2).fe)]]) 2) := by
  refine Spec.of_bodyS Try.func60 rfl (by simp [Try.ntmps60]) bL ?_
  rw [Try.ntmps60, TT.res_60]
  refine QW.view (s' := ⟨tab [(0, .vptr 0 0)], tabH [.var [.vptr 1 0], .var [pS (v0.fs), pI (v0.fe)]], 2, []⟩) (View.initP bL (by rfl)) bL ?_
  unfold g_page_Get_1 at h
  refine sRb ?_
  refine xs 1 rfl (sf_alloc (l := ((cRow (⟨(Arr.rep 32 (0 : UInt8)), (0 : Int), ([] : (List UInt8))⟩ : Row)).map .d)) rfl TT.zeroA_44 rfl rfl ?_)
  refine XK.nz ?_
  refine sRb ?_
  refine xs 2 rfl (sf_alloc (l := ((cRow (⟨(Arr.rep 32 (0 : UInt8)), (0 : Int), ([] : (List UInt8))⟩ : Row)).map .d)) rfl TT.zeroA_44 rfl rfl ?_)
  refine XK.nz ?_
  refine QW.seq ?_
  refine QW.region bL (PW.regK (id := 2) mixedX (M := _) rfl (by kernel_rfl) ?_)
  refine RK.st (some 3) rfl rfl (sf_fldV rfl TT.fldA_44_0 (by decide) rfl ?_)
  refine RK.so (some 4) rfl rfl (so_slV (p := (0 : Int)) (q := ((32 : Nat) : Int)) rfl TT.arrA_41 rfl rfl rfl (by decide) ?_)
  refine RK.st (some 5) rfl rfl (sf_ldV (v := .vptr 1 0) rfl TT.tyA_80 rfl rfl ⟨⟨by simp, by simp⟩, rfl⟩ ?_)
  obtain ⟨q_3, hx_2, h⟩ := bO h
  refine RK.so (some 6) rfl rfl (so_frame (q := pS (q_3.1)) (H2 := putH _ 1 (some (.var [pS ((q_3.2).fs), pI ((q_3.2).fe)]))) (nx2 := 4) [1] rfl rfl TT.enters_58 (sim_wide_Cut_Take (32) v0 _ hx_2) rfl rfl (by decide) (And.intro rfl trivial) bL (by decide) (by simp [HO.re, PV.res, PV.re, PV.res_d, HO.idsLts, HO.idsLt, PV.idsLts, PV.idsLt, idsLts_d, res_app, fOf]) (by simp [PV.res, PV.re, PV.idsLts, PV.idsLt, fOf]) rfl rfl rfl ?_)
  obtain ⟨c_4, h⟩ := gO_get h
  refine RK.so (some 7) rfl rfl (so_copyB (bs := (q_3.1)) (l' := ((cRow ({ (⟨(Arr.rep 32 (0 : UInt8)), (0 : Int), ([] : (List UInt8))⟩ : Row) with fSum := ((⟨(Arr.rep 32 (0 : UInt8)), (0 : Int), ([] : (List UInt8))⟩ : Row).fSum).over (q_3.1) } : Row)).map .d)) rfl TT.slcA_78 rfl rfl rfl c_4 (by rw [len_dd (lay_Row.len _)]; decide) (spl_overS (pre_Row_0 _) c_4 (spl_Row_0 _ _)) ?_)
  refine RK.nil ⟨RecsOK.comp (by rfl), (nrm ?_)⟩
  refine sRb ?_
  refine xs 8 rfl (sf_ldV (v := .vptr 1 0) rfl TT.tyA_80 rfl rfl ⟨⟨by simp, by simp⟩, rfl⟩ ?_)
  obtain ⟨q_7, hx_6, h⟩ := bO h
  refine XK.fr (p := .d (.val (.int .u64 ((q_7.1).toNat : Int)))) (H2 := putH _ 1 (some (.var [pS ((q_7.2).fs), pI ((q_7.2).fe)]))) (nx2 := 4) (some 9) rfl rfl (xcall_frame [1] rfl rfl TT.enters_59 (sim_wide_Cut_Num (4) (q_3.2) _ hx_6) rfl rfl (by decide) (And.intro rfl trivial) bL) rfl rfl rfl ?_
  obtain ⟨c_8, h⟩ := gO_get h
  refine xs 10 rfl (sf_toI (n := ((q_7.1).toNat : Int)) rfl TT.under_77 TT.under_3 rfl c_8 ?_)
  refine xs 11 rfl (sf_fldV rfl TT.fldA_44_1 (by decide) rfl ?_)
  refine XK.st none rfl rfl (sf_stV (l' := ((cRow ({ ({ (⟨(Arr.rep 32 (0 : UInt8)), (0 : Int), ([] : (List UInt8))⟩ : Row) with fSum := ((⟨(Arr.rep 32 (0 : UInt8)), (0 : Int), ([] : (List UInt8))⟩ : Row).fSum).over (q_3.1) } : Row) with fEpoch := ((q_7.1).toNat : Int) } : Row)).map .d)) rfl TT.tyA_3 rfl rfl rfl rfl rfl rfl (by rw [len_dd (lay_Row.len _)]; decide) (spl_Row_1 _ _) ?_)
  refine XK.nz ?_
  refine sRb ?_
  refine xs 12 rfl (sf_ldV (v := .vptr 1 0) rfl TT.tyA_80 rfl rfl ⟨⟨by simp, by simp⟩, rfl⟩ ?_)
  obtain ⟨q_11, hx_10, h⟩ := bO h
  refine XK.fr (p := pS (q_11.1)) (H2 := putH _ 1 (some (.var [pS ((q_11.2).fs), pI ((q_11.2).fe)]))) (nx2 := 4) (some 13) rfl rfl (xcall_frame [1] rfl rfl TT.enters_36 (sim_wide_Cut_Text (q_7.2) _ hx_10) rfl rfl (by decide) (And.intro rfl trivial) bL) rfl rfl rfl ?_
  refine xs 14 rfl (sf_fldV rfl TT.fldA_44_2 (by decide) rfl ?_)
  refine XK.st none rfl rfl (sf_stV (l' := ((cRow ({ ({ ({ (⟨(Arr.rep 32 (0 : UInt8)), (0 : Int), ([] : (List UInt8))⟩ : Row) with fSum := ((⟨(Arr.rep 32 (0 : UInt8)), (0 : Int), ([] : (List UInt8))⟩ : Row).fSum).over (q_3.1) } : Row) with fEpoch := ((q_7.1).toNat : Int) } : Row) with fBody := (q_11.1) } : Row)).map .d)) rfl TT.tyA_9 rfl rfl rfl rfl rfl rfl (by rw [len_dd (lay_Row.len _)]; decide) (spl_Row_2 _ _) ?_)
  refine XK.nz ?_
  refine QW.seq ?_
  refine QW.view (s' := ⟨tab [(1, .vptr 2 0), (2, .vptr 3 0)], tabH [.var [.vptr 1 0], .var [pS ((q_11.2).fs), pI ((q_11.2).fe)], .var ((cRow (⟨(Arr.rep 32 (0 : UInt8)), (0 : Int), ([] : (List UInt8))⟩ : Row)).map .d), .var ((cRow ({ ({ ({ (⟨(Arr.rep 32 (0 : UInt8)), (0 : Int), ([] : (List UInt8))⟩ : Row) with fSum := ((⟨(Arr.rep 32 (0 : UInt8)), (0 : Int), ([] : (List UInt8))⟩ : Row).fSum).over (q_3.1) } : Row) with fEpoch := ((q_7.1).toNat : Int) } : Row) with fBody := (q_11.1) } : Row)).map .d)], 4, []⟩) (View.mk 4 [0, 1, 2, 3] _ _ _ rfl rfl (by decide) (iC (iC trivial)) (And.intro rfl (And.intro rfl (And.intro (by simp only [atH1, rowC, PV.res_d]; rfl) (And.intro (by simp only [atH1, rowC, PV.res_d]; rfl) trivial)))) rfl bL rfl) bL ?_
  refine rGb ?_
  refine XK.as (some 15) rfl rfl (sf_ldV (v := .agg ((cRow ({ ({ ({ (⟨(Arr.rep 32 (0 : UInt8)), (0 : Int), ([] : (List UInt8))⟩ : Row) with fSum := ((⟨(Arr.rep 32 (0 : UInt8)), (0 : Int), ([] : (List UInt8))⟩ : Row).fSum).over (q_3.1) } : Row) with fEpoch := ((q_7.1).toNat : Int) } : Row) with fBody := (q_11.1) } : Row)).map .d)) rfl TT.tyA_44 rfl rfl (ldv_dd (lay_Row.len _) (by decide)) ⟨.d (.agg (cRow ({ ({ ({ (⟨(Arr.rep 32 (0 : UInt8)), (0 : Int), ([] : (List UInt8))⟩ : Row) with fSum := ((⟨(Arr.rep 32 (0 : UInt8)), (0 : Int), ([] : (List UInt8))⟩ : Row).fSum).over (q_3.1) } : Row) with fEpoch := ((q_7.1).toNat : Int) } : Row) with fBody := (q_11.1) } : Row))), imp_arr, ?_⟩)
  refine XK.st none rfl rfl (sf_stV (l' := ((cRow ({ ({ ({ (⟨(Arr.rep 32 (0 : UInt8)), (0 : Int), ([] : (List UInt8))⟩ : Row) with fSum := ((⟨(Arr.rep 32 (0 : UInt8)), (0 : Int), ([] : (List UInt8))⟩ : Row).fSum).over (q_3.1) } : Row) with fEpoch := ((q_7.1).toNat : Int) } : Row) with fBody := (q_11.1) } : Row)).map .d)) rfl TT.tyA_44 rfl rfl rfl rfl rfl (len_dd (lay_Row.len _)) (le_dd (lay_Row.len _)) (spl_dd ((lay_Row.len _).trans (lay_Row.len _).symm)) ?_)
  refine XK.nz ?_
  refine QW.ret bL ?_
  obtain rfl := sO h
  exact EndsS.one (s' := ⟨tab [(1, .vptr 2 0)], tabH [.var [.vptr 1 0], .var [pS ((q_11.2).fs), pI ((q_11.2).fe)], .var ((cRow ({ ({ ({ (⟨(Arr.rep 32 (0 : UInt8)), (0 : Int), ([] : (List UInt8))⟩ : Row) with fSum := ((⟨(Arr.rep 32 (0 : UInt8)), (0 : Int), ([] : (List UInt8))⟩ : Row).fSum).over (q_3.1) } : Row) with fEpoch := ((q_7.1).toNat : Int) } : Row) with fBody := (q_11.1) } : Row)).map .d)], 3, []⟩) (.inr rfl) (View.mk 3 [0, 1, 2] _ _ _ rfl rfl (by decide) (iC trivial) (And.intro rfl (And.intro rfl (And.intro (by simp only [atH1, rowC, PV.res_d]; rfl) trivial))) rfl bL rfl) rfl bL (fun i hi => tabH_app [.var [.vptr 1 0], .var [pS ((q_11.2).fs), pI ((q_11.2).fe)]] [.var ((cRow ({ ({ ({ (⟨(Arr.rep 32 (0 : UInt8)), (0 : Int), ([] : (List UInt8))⟩ : Row) with fSum := ((⟨(Arr.rep 32 (0 : UInt8)), (0 : Int), ([] : (List UInt8))⟩ : Row).fSum).over (q_3.1) } : Row) with fEpoch := ((q_7.1).toNat : Int) } : Row) with fBody := (q_11.1) } : Row)).map .d)] i hi) rfl (by simp [HO.idsLts, HO.idsLt, PV.idsLts, PV.idsLt, idsLts_d, rowC]) (ResIs.cell rfl rfl TT.tyA_44 (ldv_dd (lay_Row.len _) (by decide))) (by simp [PV.idsLts, PV.idsLt, idsLts_d])
inductive C_page_Get where
  | S
  | L1 (v5 : (List Row)) (v14_2 : (BitVec 64)) (v15 : (BitVec 64)) (c1_0_2 : (List UInt8)) (c1_1_2 : Int)
noncomputable def step_page_Get (s0 : (List UInt8)) : C_page_Get → Option (C_page_Get ⊕ ((List Row) × Int))
  | .S =>
    ((g_wide_On s0).bind fun (q_3 : Cut) =>
    ((g_wide_Cut_Num (1) q_3).bind fun (q_6 : ((BitVec 64) × Cut)) =>
    some (.inl (.L1 ([] : (List Row)) (q_6.1) (0 : BitVec 64) ((q_6.2).fs) ((q_6.2).fe)))))
  | .L1 v5 v14_2 v15 c1_0_2 c1_1_2 =>
    (bif (decide ((v15.toNat : Int) < (v14_2.toNat : Int))) then
    ((g_page_Get_1 (⟨c1_0_2, c1_1_2⟩ : Cut)).bind fun (q_11 : (Row × Cut)) =>
    gO ((v5.length + ([(q_11.1)] : List Row).length) * 56 ≤ 140737488355328) (
    some (.inl (.L1 (v5 ++ ([(q_11.1)] : List Row)) v14_2 (v15 + (1 : BitVec 64)) ((q_11.2).fs) ((q_11.2).fe)))))
    else
    ((g_wide_Cut_Err (⟨c1_0_2, c1_1_2⟩ : Cut)).bind fun (q_15 : (Int × Cut)) =>
    (bif (!decide ((q_15.1) = (0 : Int))) then
    some (.inr (([] : (List Row)), (q_15.1)))
    else
    ((g_page_Put v5).bind fun (x_17 : ((List UInt8) × Int)) =>
    (bif ((!decide ((x_17.2) = (0 : Int))) || (!(x_17.1 == s0))) then
    some (.inr (([] : (List Row)), 6))
    else
    some (.inr (v5, 0)))))))
noncomputable def g_page_Get (s0 : (List UInt8)) : Option ((List Row) × Int) := theC (step_page_Get s0) .S
theorem sim_page_Get (s0 : (List UInt8)) (r : ((List Row) × Int)) (h : g_page_Get s0 = some r) : Fun Try.prog 38 [.val (sV s0)] (.tuple [.slice ((r.1).map eRow), .val (.int .i64 (r.2))]) := by
  refine Fun.of_bodyQ Try.func38 rfl (by simp [Try.ntmps38]) ?_
  rw [Try.ntmps38, TT.res_38]
  refine QW.view (s' := ⟨tab [(0, pS s0)], tabH [], 0, []⟩) (View.init (by rfl)) zL ?_
  replace h := theC_get h
  obtain ⟨_, h⟩ := h
  obtain ⟨k_0, rfl, h9⟩ := run_succ h; replace h := h9; clear h9; rw [step_page_Get] at h
  refine sR ?_
  refine xa 2 (.full (([] : (List Row)).map eRow)) ?_
  refine xz 3 (pI (0)) ?_
  refine sR ?_
  refine xm 10 (pS s0) ?_
  obtain ⟨q_3, hx_2, h⟩ := bG h
  refine XK.fr (p := .vptr 0 0) (H2 := putH _ 0 (some (.var [pS (q_3.fs), pI (q_3.fe)]))) (nx2 := 1) (some 11) rfl rfl (xcall_frame [] rfl rfl TT.enters_34 (sim_wide_On s0 _ hx_2) rfl rfl (by decide) trivial bL) rfl rfl rfl ?_
  refine xs 4 rfl (sf_alloc (l := [.d (.val (.pointer none))]) rfl TT.zeroA_80 rfl rfl ?_)
  refine XK.st none rfl rfl (sf_stV (l' := [.vptr 0 0]) rfl TT.tyA_80 rfl rfl rfl rfl rfl rfl (by simp) rfl ?_)
  refine XK.nz ?_
  refine sR ?_
  refine xz 5 (.full (([] : (List Row)).map eRow)) ?_
  refine sR ?_
  refine xs 12 rfl (sf_func rfl rfl ?_)
  refine xz 6 (.clo 60 [.vptr 1 0]) ?_
  refine QW.seq ?_
  refine sR ?_
  refine xs 13 rfl (sf_ldV (v := .vptr 0 0) rfl TT.tyA_80 rfl rfl ⟨⟨by simp, by simp⟩, rfl⟩ ?_)
  obtain ⟨q_6, hx_5, h⟩ := bG h
  refine XK.fr (p := .d (.val (.int .u64 ((q_6.1).toNat : Int)))) (H2 := putH _ 0 (some (.var [pS ((q_6.2).fs), pI ((q_6.2).fe)]))) (nx2 := 2) (some 14) rfl rfl (xcall_frame [0] rfl rfl TT.enters_59 (sim_wide_Cut_Num (1) q_3 _ hx_5) rfl rfl (by decide) (And.intro rfl trivial) bL) rfl rfl rfl ?_
  refine xm 15 (.d (.val (.int .u64 ((0 : BitVec 64).toNat : Int)))) ?_
  refine XK.nz ?_
  refine QW.block ?_
  refine QW.loop (fun k σ => ∃ v5 : (List Row), ∃ v14_2 : (BitVec 64), ∃ v15 : (BitVec 64), ∃ c1_0_2 : (List UInt8), ∃ c1_1_2 : Int, k ≤ k_0 ∧ run (step_page_Get s0) k (.L1 v5 v14_2 v15 c1_0_2 c1_1_2) = some r ∧ σ = ⟨tab [(0, pS s0), (4, .vptr 0 0), (5, .own 2 (v5.map eRow)), (6, .clo 60 [.vptr 0 0]), (14, .d (.val (.int .u64 (v14_2.toNat : Int)))), (15, .d (.val (.int .u64 (v15.toNat : Int))))], tabH [.var [.vptr 1 0], .var [pS c1_0_2, pI c1_1_2], .spare 34 v5.length], 3, []⟩) k_0 zL ⟨⟨tab [(0, pS s0), (4, .vptr 0 0), (5, .own 2 (([] : (List Row)).map eRow)), (6, .clo 60 [.vptr 0 0]), (14, .d (.val (.int .u64 ((q_6.1).toNat : Int)))), (15, .d (.val (.int .u64 ((0 : BitVec 64).toNat : Int))))], tabH [.var [.vptr 1 0], .var [pS ((q_6.2).fs), pI ((q_6.2).fe)], .spare 34 ([] : (List Row)).length], 3, []⟩, View.trans (View.buf 5 34 rfl zL) (View.mk 3 [1, 0, 2] _ _ _ rfl rfl (by decide) (iC (iC (iC (iC (iC (iC trivial)))))) (And.intro rfl (And.intro rfl (And.intro rfl trivial))) rfl zL rfl), ([] : (List Row)), (q_6.1), (0 : BitVec 64), (q_6.2).fs, (q_6.2).fe, Nat.le_refl _, jG h, rfl⟩ ?_
  rintro k_7s _ ⟨v5, v14_2, v15, c1_0_2, c1_1_2, k_7h, h, rfl⟩
  obtain ⟨k_7, rfl, h9⟩ := run_succ h; replace h := h9; clear h9; rw [step_page_Get] at h
  refine sR ?_
  refine xs 16 rfl (sf_lss (a := (v15.toNat : Int)) (b := (v14_2.toNat : Int)) rfl rfl rfl ?_)
  refine XK.nz ?_
  refine QW.seq ?_
  refine QW.cond (t := (decide ((v15.toNat : Int) < (v14_2.toNat : Int)))) rfl zL (fun hb_8 => ?_) (fun hb_8 => ?_)
  · replace h := bGT h hb_8
    refine QW.skip zL (nrm ?_)
    refine QW.seq ?_
    refine QW.block ?_
    refine rG ?_
    refine xm 17 (.own 2 (v5.map eRow)) ?_
    refine xm 18 (.clo 60 [.vptr 0 0]) ?_
    obtain ⟨q_11, hx_10, h⟩ := bG h
    refine XK.fi (p := .agg ((cRow (q_11.1)).map .d)) (H2 := putH (putH _ 1 (some (.var [pS ((q_11.2).fs), pI ((q_11.2).fe)]))) 0 (some (.var [.vptr 1 0]))) (nx2 := 3) (some 19) rfl rfl (xclo_frame [0, 1] rfl rfl rfl TT.enters_60 (sim_page_Get_1 (⟨c1_0_2, c1_1_2⟩ : Cut) _ hx_10) rfl rfl (by decide) (And.intro rfl (And.intro rfl trivial)) bL) (by simp only [Out.re, PV.re, PV.res, PV.res_d]) rfl rfl imp_arr ?_
    refine xs 20 rfl (sf_row (en := eRow) (l := ([(q_11.1)] : List Row)) rfl TT.rowA_38 lay_Row (by first | rfl | (simp only [List.map_cons, List.map_nil, eRow_eq]; rfl)) rfl (by decide) (by simp [solids, partsP, evP, ofVal, PV.solid, putS_at, tab, unS, unT, unC, asCond, Value.oneCell']) ?_)
    obtain ⟨c_12, h⟩ := gG h
    refine xs 21 rfl (sf_appO (en := eRow) (l := v5) (l2 := ([(q_11.1)] : List Row)) rfl TT.rowA_38 TT.under_38 rfl lay_Row rfl rfl rfl c_12 (by decide) ?_)
    refine xa 5 (.own 3 ((v5 ++ ([(q_11.1)] : List Row)).map eRow)) ?_
    refine XK.nil (blN (nrm ?_))
    refine rG ?_
    refine xs 22 rfl (sf_wadd' (a := v15) (b := (1 : BitVec 64)) rfl rfl rfl ?_)
    refine xm 15 (.d (.val (.int .u64 ((v15 + (1 : BitVec 64)).toNat : Int)))) ?_
    refine XK.nz ?_
    exact ⟨k_7, by omega, ⟨tab [(0, pS s0), (4, .vptr 0 0), (5, .own 2 ((v5 ++ ([(q_11.1)] : List Row)).map eRow)), (6, .clo 60 [.vptr 0 0]), (14, .d (.val (.int .u64 (v14_2.toNat : Int)))), (15, .d (.val (.int .u64 ((v15 + (1 : BitVec 64)).toNat : Int))))], tabH [.var [.vptr 1 0], .var [pS ((q_11.2).fs), pI ((q_11.2).fe)], .spare 34 (v5 ++ ([(q_11.1)] : List Row)).length], 3, []⟩, View.mk 3 [0, 1, 3] _ _ _ rfl rfl (by decide) (iC (iC (iC (iC (iC (iC trivial)))))) (And.intro rfl (And.intro rfl (And.intro rfl trivial))) rfl zL rfl, (v5 ++ ([(q_11.1)] : List Row)), v14_2, (v15 + (1 : BitVec 64)), (q_11.2).fs, (q_11.2).fe, by omega, jG h, rfl⟩
  · replace h := bGF h hb_8
    refine QW.exit zL (thX (thX (exE (nrm ?_))))
    refine QW.seq ?_
    refine sR ?_
    refine xs 23 rfl (sf_ldV (v := .vptr 1 0) rfl TT.tyA_80 rfl rfl ⟨⟨by simp, by simp⟩, rfl⟩ ?_)
    obtain ⟨q_15, hx_14, h⟩ := bG h
    refine XK.fr (p := pI (q_15.1)) (H2 := putH _ 1 (some (.var [pS ((q_15.2).fs), pI ((q_15.2).fe)]))) (nx2 := 3) (some 24) rfl rfl (xcall_frame [1] rfl rfl TT.enters_37 (sim_wide_Cut_Err (⟨c1_0_2, c1_1_2⟩ : Cut) _ hx_14) rfl rfl (by decide) (And.intro rfl trivial) bL) rfl rfl rfl ?_
    refine xz 7 (pI (q_15.1)) ?_
    refine sR ?_
    refine xm 25 (pI (q_15.1)) ?_
    refine xs 26 rfl (sf_ne (a := (q_15.1)) (b := (0 : Int)) rfl rfl rfl ?_)
    refine XK.nz ?_
    refine QW.cond (t := (!decide ((q_15.1) = (0 : Int)))) rfl zL (fun hb_16 => ?_) (fun hb_16 => ?_)
    · replace h := bGT h hb_16
      refine sR ?_
      refine xm 27 (pI (q_15.1)) ?_
      refine xa 2 (.full (([] : (List Row)).map eRow)) ?_
      refine xz 3 (pI (q_15.1)) ?_
      refine QW.ret zL (thR ?_)
      obtain rfl := sG h
      exact Ends.more (.inr rfl) rfl (ps := [.full (([] : (List Row)).map eRow), pI (q_15.1)]) (And.intro (ResIs.tmp rfl) (And.intro (ResIs.tmp rfl) trivial)) rfl rfl
    · replace h := bGF h hb_16
      refine QW.skip zL (nrm ?_)
      refine QW.seq ?_
      refine sR ?_
      refine xm 29 (.own 2 (v5.map eRow)) ?_
      obtain ⟨x_17, hx_18, h⟩ := bG h
      refine xs 30 rfl (sf_call rfl rfl TT.enters_17 rfl (sim_page_Put v5 _ hx_18) ?_)
      refine xm 28 (.d (.tuple [.val (sV (x_17.1)), .val (.int .i64 (x_17.2))])) ?_
      refine xs 31 rfl (sf_extract rfl rfl rfl ?_)
      refine xs 32 rfl (sf_extract rfl rfl rfl ?_)
      refine xa 8 (pS (x_17.1)) ?_
      refine xz 9 (pI (x_17.2)) ?_
      refine sR ?_
      refine xm 33 (pI (x_17.2)) ?_
      refine xs 34 rfl (sf_ne (a := (x_17.2)) (b := (0 : Int)) rfl rfl rfl ?_)
      refine xm 35 (pB (!decide ((x_17.2) = (0 : Int)))) ?_
      refine xg 36 (pS (x_17.1)) rfl rfl (fun hg => sf_move (v := pS (x_17.1)) rfl rfl g3) ?_
      refine xg 37 (pS s0) rfl rfl (fun hg => sf_move (v := pS s0) rfl rfl g3) ?_
      refine xg 38 (pB (!(x_17.1 == s0))) rfl rfl (fun hg => sf_sne (a := x_17.1) (b := s0) rfl rfl rfl g3) ?_
      refine xs 39 rfl (sf_pickO rfl rfl rfl rfl (fun _ => rfl) (fun hb => by rw [hb]; rfl) ?_)
      refine XK.nz ?_
      refine QW.cond (t := ((!decide ((x_17.2) = (0 : Int))) || (!(x_17.1 == s0)))) rfl zL (fun hb_19 => ?_) (fun hb_19 => ?_)
      · replace h := bGT h hb_19
        refine sR ?_
        refine xa 2 (.full (([] : (List Row)).map eRow)) ?_
        refine xz 3 (pI (6)) ?_
        refine QW.ret zL (thR ?_)
        obtain rfl := sG h
        exact Ends.more (.inr rfl) rfl (ps := [.full (([] : (List Row)).map eRow), pI (6)]) (And.intro (ResIs.tmp rfl) (And.intro (ResIs.tmp rfl) trivial)) rfl rfl
      · replace h := bGF h hb_19
        refine QW.skip zL (nrm ?_)
        refine sR ?_
        refine xm 40 (.own 2 (v5.map eRow)) ?_
        refine xa 2 (.own 2 (v5.map eRow)) ?_
        refine xz 3 (pI (0)) ?_
        refine QW.ret zL ?_
        obtain rfl := sG h
        exact Ends.more (.inr rfl) rfl (ps := [.own 2 (v5.map eRow), pI (0)]) (And.intro (ResIs.tmp rfl) (And.intro (ResIs.tmp rfl) trivial)) rfl rfl
end Go.Proofs.Ythpgedneniekmaa.K
