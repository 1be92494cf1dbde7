/- Package pindex: what it reckons. -/
import Derived.Test.YthpgedneniekmaaAWPage
import Derived.KernelRfl
namespace Go.Proofs.Ythpgedneniekmaa.K
open Go Go.RowKit
set_option linter.unusedSimpArgs false
set_option linter.unusedVariables false
set_option maxRecDepth 20000
set_option maxHeartbeats 4000000
namespace TT
theorem arrB_41_32 : arrB Try.prog 41 32 = true := by kernel_rfl
theorem bldA_26 : bldA Try.prog 26 = some ([Value.slice none 0 0], .inl [(0, 1)]) := by kernel_rfl
theorem enters_28 : entersB Try.prog 28 = true := by kernel_rfl
theorem enters_29 : entersB Try.prog 29 = true := by kernel_rfl
theorem enters_30 : entersB Try.prog 30 = true := by kernel_rfl
theorem enters_31 : entersB Try.prog 31 = true := by kernel_rfl
theorem enters_35 : entersB Try.prog 35 = true := by kernel_rfl
theorem enters_38 : entersB Try.prog 38 = true := by kernel_rfl
theorem enters_43 : entersB Try.prog 43 = true := by kernel_rfl
theorem enters_44 : entersB Try.prog 44 = true := by kernel_rfl
theorem enters_45 : entersB Try.prog 45 = true := by kernel_rfl
theorem enters_46 : entersB Try.prog 46 = true := by kernel_rfl
theorem enters_47 : entersB Try.prog 47 = true := by kernel_rfl
theorem enters_53 : entersB Try.prog 53 = true := by kernel_rfl
theorem enters_54 : entersB Try.prog 54 = true := by kernel_rfl
theorem enters_55 : entersB Try.prog 55 = true := by kernel_rfl
theorem enters_9 : entersB Try.prog 9 = true := by kernel_rfl
theorem fldA_26_0 : fldA Try.prog 26 0 = some (0, 1, false) := by kernel_rfl
theorem res_16 : Try.f16.results.toList = [.cell 4 26, .tmp 5] := rfl
theorem res_19 : Try.f19.results.toList = [.cell 2 26, .tmp 3] := rfl
theorem res_22 : Try.f22.results.toList = [.cell 6 26, .tmp 7] := rfl
theorem res_23 : Try.f23.results.toList = [.tmp 4] := rfl
theorem res_28 : Try.f28.results.toList = [.cell 8 26] := rfl
theorem res_29 : Try.f29.results.toList = [.tmp 4] := rfl
theorem res_43 : Try.f43.results.toList = [.tmp 6, .tmp 7, .tmp 8] := rfl
theorem res_45 : Try.f45.results.toList = [.cell 4 26] := rfl
theorem res_46 : Try.f46.results.toList = [.tmp 4] := rfl
theorem res_47 : Try.f47.results.toList = [.tmp 3] := rfl
theorem res_53 : Try.f53.results.toList = [.tmp 2] := rfl
theorem res_54 : Try.f54.results.toList = [.tmp 4] := rfl
theorem res_55 : Try.f55.results.toList = [.tmp 3] := rfl
theorem res_6 : Try.f6.results.toList = [.tmp 2, .tmp 3] := rfl
theorem res_9 : Try.f9.results.toList = [.tmp 2] := rfl
theorem rowZ_38 : rowZ Try.prog 38 = true := by kernel_rfl
theorem tyA_24 : tyA Try.prog 24 = some (false, 1) := by kernel_rfl
theorem tyA_26 : tyA Try.prog 26 = some (true, 1) := by kernel_rfl
theorem zeroA_26 : zeroA Try.prog 26 = some [Value.slice none 0 0] := by kernel_rfl
end TT
noncomputable def g_pindex_Index_All (x0 : Index) : Option (List Row) :=
    ((g_slices_Concat_api_Row_api_Row (x0.fpages)).bind fun (x_1 : (List Row)) =>
    some x_1)
theorem sim_pindex_Index_All (x0 : Index) (r : (List Row)) (h : g_pindex_Index_All x0 = some r) : Fun Try.prog 9 [.agg (cIndex x0)] (.slice (r.map eRow)) := by
  refine Fun.of_bodyQ Try.func9 rfl (by simp [Try.ntmps9]) ?_
  rw [Try.ntmps9, TT.res_9]
  refine QW.view (s' := ⟨tab [(0, .d (.agg (cIndex x0)))], tabH [], 0, []⟩) (View.init (by rfl)) zL ?_
  unfold g_pindex_Index_All at h
  refine sR ?_
  refine XK.fz (some 1) rfl rfl (sf_boxF (ds := cIndex x0) rfl rfl rfl rfl rfl ?_)
  refine xz 2 (.full (([] : (List Row)).map eRow)) ?_
  refine sR ?_
  refine xs 3 rfl (sf_fldC rfl TT.fldA_26_0 (by decide) rfl ?_)
  refine xs 4 rfl (sf_ldC (d := .slice ((x0.fpages).map (eL eRow))) rfl TT.tyA_24 rfl (LdC.one) ?_)
  obtain ⟨x_1, hx_2, h⟩ := bO h
  refine xs 5 rfl (sf_call rfl rfl TT.enters_20 rfl (sim_slices_Concat_api_Row_api_Row (x0.fpages) _ hx_2) ?_)
  refine xz 2 (.d (.slice (x_1.map eRow))) ?_
  refine QW.ret zL ?_
  obtain rfl := sO h
  exact Ends.one (.inr rfl) rfl (ResIs.tmp rfl) rfl rfl
noncomputable def g_pindex_Index_Of_1 (r0 : Row) (v1 : (Arr 32 UInt8)) : Option Bool :=
    some (!((r0.fSum).1 == v1.1))
theorem sim_pindex_Index_Of_1 (r0 : Row) (v1 : (Arr 32 UInt8)) (r : Bool) (h : g_pindex_Index_Of_1 r0 v1 = some r) : Fun Try.prog 47 [.agg (cRow r0), .cptr (v1.1.map byteD)] (.val (.bool r)) := by
  refine Fun.of_bodyQ Try.func47 rfl (by simp [Try.ntmps47]) ?_
  rw [Try.ntmps47, TT.res_47]
  refine QW.view (s' := ⟨tab [(0, .d (.agg (cRow r0))), (1, .d (.cptr (v1.1.map byteD)))], tabH [], 0, []⟩) (View.init (by rfl)) zL ?_
  unfold g_pindex_Index_Of_1 at h
  refine sR ?_
  refine XK.fz (some 2) rfl rfl (sf_boxF (ds := cRow r0) rfl rfl rfl rfl toDs_map ?_)
  refine xz 3 (pB false) ?_
  refine sR ?_
  refine xs 4 rfl (sf_fldC rfl TT.fldA_44_0 (by decide) rfl ?_)
  refine xs 5 rfl (sf_ldC (d := .agg ((r0.fSum).1.map byteD)) rfl TT.tyA_41 rfl (ldc_Row_0 _) ?_)
  refine xs 6 rfl (sf_ldC (d := .agg (v1.1.map byteD)) rfl TT.tyA_41 rfl (ldc_all (by rw [List.length_map, v1.2])) ?_)
  refine xs 7 rfl (sf_arrne (p := r0.fSum) (q := v1) rfl TT.arrB_41_32 rfl rfl ?_)
  refine xz 3 (pB (!((r0.fSum).1 == v1.1))) ?_
  refine QW.ret zL ?_
  obtain rfl := sO h
  exact Ends.one (.inr rfl) rfl (ResIs.tmp rfl) rfl rfl
noncomputable def g_slices_Grow_api_Row_api_RowW  (v1 : Int) : Option (List Row) :=
    (bif (decide (v1 < (0 : Int))) then
    none
    else
    gO (inI ((0 : Int) - (0 : Int))) (
    gO (inI (v1 - ((0 : Int) - (0 : Int)))) (
    (bif (decide ((0 : Int) < (v1 - ((0 : Int) - (0 : Int))))) then
    gO (0 < (v1 - ((0 : Int) - (0 : Int))) ∧ (v1 - ((0 : Int) - (0 : Int))).toNat * 56 ≤ 140737488355328) (
    some ([] : (List Row)))
    else
    some ([] : (List Row))))))
theorem sim_slices_Grow_api_Row_api_RowW  (v1 : Int) (r : (List Row)) (h : g_slices_Grow_api_Row_api_RowW v1 = some r) : Spec Try.prog 40 [.full (([] : (List Row)).map eRow), pI v1] (tabH []) 0 (postX (.ret (.room 0 r.length)) (tabH [.wsp 34 (rowC (r.map eRow))]) 1) := by
  refine Spec.of_bodyS Try.func40 rfl (by simp [Try.ntmps40]) bL ?_
  rw [Try.ntmps40, TT.res_40]
  refine QW.view (s' := ⟨tab [(0, .full (([] : (List Row)).map eRow)), (1, pI v1)], tabH [], 0, []⟩) (View.initP zL (by rfl)) zL ?_
  unfold g_slices_Grow_api_Row_api_RowW at h
  refine sR ?_
  refine xz 4 (.full (([] : (List Row)).map eRow)) ?_
  refine QW.seq ?_
  refine sR ?_
  refine xm 5 (pI v1) ?_
  refine xs 6 rfl (sf_lss (a := v1) (b := (0 : Int)) rfl rfl rfl ?_)
  refine XK.nz ?_
  refine QW.cond (t := (decide (v1 < (0 : Int)))) rfl zL (fun hb_1 => ?_) (fun hb_1 => ?_)
  · replace h := bT h hb_1
    refine rG ?_
    refine xs 7 rfl (sf_iface (y := .val (sV ([99, 97, 110, 110, 111, 116, 32, 98, 101, 32, 110, 101, 103, 97, 116, 105, 118, 101] : List UInt8))) rfl rfl TT.ifaceOK_9 ?_)
    refine XK.panic rfl rfl rfl (thP ?_)
    cases h
  · replace h := bF h hb_1
    refine QW.skip zL (nrm ?_)
    refine QW.seq ?_
    refine sR ?_
    refine xm 8 (pI v1) ?_
    refine xm 9 (.full (([] : (List Row)).map eRow)) ?_
    refine XK.so (some 10) rfl rfl (sf_capF rfl TT.under_38 rfl ?_)
    refine xm 11 (.full (([] : (List Row)).map eRow)) ?_
    refine xs 12 rfl (sf_lenL (en := eRow) (l := ([] : (List Row))) rfl TT.under_38 rfl ?_)
    obtain ⟨c_2, h⟩ := gO_get h
    refine xs 13 rfl (sf_sub (a := (0 : Int)) (b := (0 : Int)) rfl rfl rfl c_2 ?_)
    obtain ⟨c_3, h⟩ := gO_get h
    refine xs 14 rfl (sf_sub (a := v1) (b := ((0 : Int) - (0 : Int))) rfl rfl rfl c_3 ?_)
    refine xz 1 (pI (v1 - ((0 : Int) - (0 : Int)))) ?_
    refine sR ?_
    refine xm 15 (pI (v1 - ((0 : Int) - (0 : Int)))) ?_
    refine xs 16 rfl (sf_gtr (a := (v1 - ((0 : Int) - (0 : Int)))) (b := (0 : Int)) rfl rfl rfl ?_)
    refine XK.nz ?_
    refine QW.cond (t := (decide ((0 : Int) < (v1 - ((0 : Int) - (0 : Int)))))) rfl zL (fun hb_4 => ?_) (fun hb_4 => ?_)
    · replace h := bT h hb_4
      refine rG ?_
      refine xm 17 (.full (([] : (List Row)).map eRow)) ?_
      refine xm 18 (.full (([] : (List Row)).map eRow)) ?_
      refine XK.so (some 19) rfl rfl (sf_capF rfl TT.under_38 rfl ?_)
      refine XK.so (some 20) rfl rfl (so_sub00 rfl TT.slcA_38 rfl rfl ?_)
      refine xm 21 (pI (v1 - ((0 : Int) - (0 : Int)))) ?_
      obtain ⟨c_5, h⟩ := gO_get h
      refine XK.so (some 22) rfl rfl (so_appZW (n := (v1 - ((0 : Int) - (0 : Int)))) rfl TT.rowA_38 TT.under_3 rfl rfl c_5 (by decide) ?_)
      refine xm 23 (.full (([] : (List Row)).map eRow)) ?_
      refine xs 24 rfl (sf_lenL (en := eRow) (l := ([] : (List Row))) rfl TT.under_38 rfl ?_)
      refine XK.so (some 25) rfl rfl (so_roomW rfl TT.slcA_38 rfl rfl ?_)
      refine xz 0 (.room 0 ([] : (List Row)).length) ?_
      refine sR ?_
      refine xm 26 (.room 0 ([] : (List Row)).length) ?_
      refine xz 4 (.room 0 ([] : (List Row)).length) ?_
      refine QW.ret zL ?_
      obtain rfl := sO h
      exact EndsS.one (s' := ⟨tab [(4, .room 0 ([] : (List Row)).length)], tabH [.wsp 34 (rowC (([] : (List Row)).map eRow))], 1, []⟩) (.inr rfl) (View.mk 1 [0] _ _ _ rfl rfl (by decide) (iC trivial) (And.intro (by simp only [atH1, rowC, PV.res_d]; rfl) trivial) rfl zL rfl) rfl bL (fun i hi => tabH_app [.wsp 34 (rowC (([] : (List Row)).map eRow))] [] i hi) rfl (by simp [HO.idsLts, HO.idsLt, PV.idsLts, PV.idsLt, idsLts_d, rowC]) (ResIs.tmp rfl) (by simp [PV.idsLts, PV.idsLt, idsLts_d])
    · replace h := bF h hb_4
      refine QW.skip zL (nrm ?_)
      refine sR ?_
      refine xm 26 (.full (([] : (List Row)).map eRow)) ?_
      refine xz 4 (.full (([] : (List Row)).map eRow)) ?_
      refine QW.ret zL ?_
      obtain rfl := sO h
      exact EndsS.one (s' := ⟨tab [(4, .room 0 ([] : (List Row)).length)], tabH [.wsp 34 (rowC (([] : (List Row)).map eRow))], 1, []⟩) (.inr rfl) (View.trans (View.bufRW 4 34 rfl zL) (View.mk 1 [0] _ _ _ rfl rfl (by decide) (iC trivial) (And.intro (by simp only [atH1, rowC, PV.res_d]; rfl) trivial) rfl zL rfl)) rfl bL (fun i hi => tabH_app [.wsp 34 (rowC (([] : (List Row)).map eRow))] [] i hi) rfl (by simp [HO.idsLts, HO.idsLt, PV.idsLts, PV.idsLt, idsLts_d, rowC]) (ResIs.tmp rfl) (by simp [PV.idsLts, PV.idsLt, idsLts_d])
inductive C_slices_Concat_api_Row_api_RowR where
  | S
  | L1 (v3 : Int) (v11 : Int)
  | L2 (v6_2 : (List Row)) (v27 : Int)
noncomputable def step_slices_Concat_api_Row_api_RowR (v0 : (List (List Row))) : C_slices_Concat_api_Row_api_RowR → Option (C_slices_Concat_api_Row_api_RowR ⊕ (List Row))
  | .S =>
    some (.inl (.L1 (0) (0)))
  | .L1 v3 v11 =>
    (bif (decide (v11 < (v0.length : Int))) then
    gO (0 ≤ v11 ∧ v11 < (v0.length : Int)) (
    gO (inI (v3 + ((idx v0 v11).length : Int))) (
    (bif (decide ((v3 + ((idx v0 v11).length : Int)) < (0 : Int))) then
    none
    else
    gO (inI (v11 + (1 : Int))) (
    some (.inl (.L1 (v3 + ((idx v0 v11).length : Int)) (v11 + (1 : Int))))))))
    else
    ((g_slices_Grow_api_Row_api_RowW v3).bind fun (q_9 : (List Row)) =>
    some (.inl (.L2 q_9 (0)))))
  | .L2 v6_2 v27 =>
    (bif (decide (v27 < (v0.length : Int))) then
    gO (0 ≤ v27 ∧ v27 < (v0.length : Int)) (
    gO ((v6_2.length + (idx v0 v27).length) * 56 ≤ 140737488355328) (
    gO (inI (v27 + (1 : Int))) (
    some (.inl (.L2 (v6_2 ++ (idx v0 v27)) (v27 + (1 : Int)))))))
    else
    some (.inr v6_2))
noncomputable def g_slices_Concat_api_Row_api_RowR (v0 : (List (List Row))) : Option (List Row) := theC (step_slices_Concat_api_Row_api_RowR v0) .S
theorem sim_slices_Concat_api_Row_api_RowR (v0 : (List (List Row))) (r : (List Row)) (h : g_slices_Concat_api_Row_api_RowR v0 = some r) : Spec Try.prog 20 [.d (.slice (v0.map (eL eRow)))] (tabH []) 0 (postX (.ret (.vrow 0 0 r.length)) (tabH [.var (rowC (r.map eRow))]) 1) := by
  refine Spec.of_bodyS Try.func20 rfl (by simp [Try.ntmps20]) bL ?_
  rw [Try.ntmps20, TT.res_20]
  refine QW.view (s' := ⟨tab [(0, .d (.slice (v0.map (eL eRow))))], tabH [], 0, []⟩) (View.initP zL (by rfl)) zL ?_
  replace h := theC_get h
  obtain ⟨_, h⟩ := h
  obtain ⟨k_0, rfl, h9⟩ := run_succ h; replace h := h9; clear h9; rw [step_slices_Concat_api_Row_api_RowR] at h
  refine sR ?_
  refine xz 2 (.full (([] : (List Row)).map eRow)) ?_
  refine sR ?_
  refine xz 3 (pI (0)) ?_
  refine QW.seq ?_
  refine sR ?_
  refine xm 9 (.d (.slice (v0.map (eL eRow)))) ?_
  refine xs 10 rfl (sf_lenL (en := (eL eRow)) (l := v0) rfl TT.under_24 rfl ?_)
  refine xm 11 (pI (0)) ?_
  refine XK.nz ?_
  refine QW.block ?_
  refine QW.loop (fun k σ => ∃ v3 : Int, ∃ v11 : Int, k ≤ k_0 ∧ run (step_slices_Concat_api_Row_api_RowR v0) k (.L1 v3 v11) = some r ∧ σ = ⟨tab [(0, .d (.slice (v0.map (eL eRow)))), (3, pI v3), (9, .d (.slice (v0.map (eL eRow)))), (10, pI (v0.length : Int)), (11, pI v11)], tabH [], 0, []⟩) k_0 zL ⟨⟨tab [(0, .d (.slice (v0.map (eL eRow)))), (3, pI (0)), (9, .d (.slice (v0.map (eL eRow)))), (10, pI (v0.length : Int)), (11, pI (0))], tabH [], 0, []⟩, View.mk 0 [] _ _ _ rfl rfl (by decide) (iC (iC (iC (iC (iC trivial))))) trivial rfl zL rfl, 0, 0, Nat.le_refl _, jG h, rfl⟩ ?_
  rintro k_1s _ ⟨v3, v11, k_1h, h, rfl⟩
  obtain ⟨k_1, rfl, h9⟩ := run_succ h; replace h := h9; clear h9; rw [step_slices_Concat_api_Row_api_RowR] at h
  refine sR ?_
  refine xs 12 rfl (sf_lss (a := v11) (b := (v0.length : Int)) rfl rfl rfl ?_)
  refine XK.nz ?_
  refine QW.seq ?_
  refine QW.cond (t := (decide (v11 < (v0.length : Int)))) rfl zL (fun hb_2 => ?_) (fun hb_2 => ?_)
  · replace h := bGT h hb_2
    refine QW.skip zL (nrm ?_)
    refine QW.seq ?_
    refine QW.block ?_
    refine sR ?_
    obtain ⟨c_3, h⟩ := gG h
    refine xs 13 rfl (sf_idxA (l := v0) (i := v11) rfl TT.slcA_24 lay_L rfl rfl c_3 ?_)
    refine xs 14 rfl (sf_ldC (d := .slice ((idx v0 v11).map eRow)) rfl TT.tyA_38 rfl (LdC.one) ?_)
    refine xz 5 (.d (.slice ((idx v0 v11).map eRow))) ?_
    refine sR ?_
    refine xm 15 (pI v3) ?_
    refine xm 16 (.d (.slice ((idx v0 v11).map eRow))) ?_
    refine xs 17 rfl (sf_lenL (en := eRow) (l := (idx v0 v11)) rfl TT.under_38 rfl ?_)
    obtain ⟨c_4, h⟩ := gG h
    refine xs 18 rfl (sf_add (a := v3) (b := ((idx v0 v11).length : Int)) rfl rfl rfl c_4 ?_)
    refine xz 3 (pI (v3 + ((idx v0 v11).length : Int))) ?_
    refine sR ?_
    refine xm 19 (pI (v3 + ((idx v0 v11).length : Int))) ?_
    refine xs 20 rfl (sf_lss (a := (v3 + ((idx v0 v11).length : Int))) (b := (0 : Int)) rfl rfl rfl ?_)
    refine XK.nz ?_
    refine QW.cond (t := (decide ((v3 + ((idx v0 v11).length : Int)) < (0 : Int)))) rfl zL (fun hb_5 => ?_) (fun hb_5 => ?_)
    · replace h := bGT h hb_5
      refine rG ?_
      refine xs 21 rfl (sf_iface (y := .val (sV ([108, 101, 110, 32, 111, 117, 116, 32, 111, 102, 32, 114, 97, 110, 103, 101] : List UInt8))) rfl rfl TT.ifaceOK_9 ?_)
      refine XK.panic rfl rfl rfl (blP (thP (thP (blP (thP ?_)))))
      cases h
    · replace h := bGF h hb_5
      refine QW.skip zL (blN (nrm ?_))
      refine rG ?_
      obtain ⟨c_6, h⟩ := gG h
      refine xs 22 rfl (sf_add (a := v11) (b := (1 : Int)) rfl rfl rfl c_6 ?_)
      refine xm 11 (pI (v11 + (1 : Int))) ?_
      refine XK.nz ?_
      exact ⟨k_1, by omega, ⟨tab [(0, .d (.slice (v0.map (eL eRow)))), (3, pI (v3 + ((idx v0 v11).length : Int))), (9, .d (.slice (v0.map (eL eRow)))), (10, pI (v0.length : Int)), (11, pI (v11 + (1 : Int)))], tabH [], 0, []⟩, View.mk 0 [] _ _ _ rfl rfl (by decide) (iC (iC (iC (iC (iC trivial))))) trivial rfl zL rfl, (v3 + ((idx v0 v11).length : Int)), (v11 + (1 : Int)), by omega, jG h, rfl⟩
  · replace h := bGF h hb_2
    refine QW.exit zL (thX (thX (exE (nrm ?_))))
    refine sR ?_
    refine xm 23 (pI v3) ?_
    obtain ⟨q_9, hx_8, h⟩ := bG h
    refine XK.fr (p := .room 0 q_9.length) (H2 := putH _ 0 (some (.wsp 34 (rowC (q_9.map eRow))))) (nx2 := 1) (some 24) rfl rfl (xcall_frame [] rfl rfl TT.enters_40 (sim_slices_Grow_api_Row_api_RowW v3 _ hx_8) rfl rfl (by decide) trivial bL) rfl (by simp only [putsR, lv, HO.re, rowC, PV.res_d, res_app]; rfl) rfl ?_
    refine xz 6 (.room 0 q_9.length) ?_
    refine QW.seq ?_
    refine sR ?_
    refine xm 25 (.d (.slice (v0.map (eL eRow)))) ?_
    refine xs 26 rfl (sf_lenL (en := (eL eRow)) (l := v0) rfl TT.under_24 rfl ?_)
    refine xm 27 (pI (0)) ?_
    refine XK.nz ?_
    refine QW.block ?_
    refine QW.loop (fun k σ => ∃ v6_2 : (List Row), ∃ v27 : Int, k ≤ k_1 ∧ run (step_slices_Concat_api_Row_api_RowR v0) k (.L2 v6_2 v27) = some r ∧ σ = ⟨tab [(6, .room 0 v6_2.length), (25, .d (.slice (v0.map (eL eRow)))), (26, pI (v0.length : Int)), (27, pI v27)], tabH [.wsp 34 (rowC (v6_2.map eRow))], 1, []⟩) k_1 zL ⟨⟨tab [(6, .room 0 q_9.length), (25, .d (.slice (v0.map (eL eRow)))), (26, pI (v0.length : Int)), (27, pI (0))], tabH [.wsp 34 (rowC (q_9.map eRow))], 1, []⟩, View.mk 1 [0] _ _ _ rfl rfl (by decide) (iC (iC (iC (iC trivial)))) (And.intro (by simp only [atH1, rowC, PV.res_d]; rfl) trivial) rfl zL rfl, q_9, 0, Nat.le_refl _, jG h, rfl⟩ ?_
    rintro k_10s _ ⟨v6_2, v27, k_10h, h, rfl⟩
    obtain ⟨k_10, rfl, h9⟩ := run_succ h; replace h := h9; clear h9; rw [step_slices_Concat_api_Row_api_RowR] at h
    refine sR ?_
    refine xs 28 rfl (sf_lss (a := v27) (b := (v0.length : Int)) rfl rfl rfl ?_)
    refine XK.nz ?_
    refine QW.seq ?_
    refine QW.cond (t := (decide (v27 < (v0.length : Int)))) rfl zL (fun hb_11 => ?_) (fun hb_11 => ?_)
    · replace h := bGT h hb_11
      refine QW.skip zL (nrm ?_)
      refine QW.seq ?_
      refine QW.block ?_
      refine sR ?_
      obtain ⟨c_12, h⟩ := gG h
      refine xs 29 rfl (sf_idxA (l := v0) (i := v27) rfl TT.slcA_24 lay_L rfl rfl c_12 ?_)
      refine xs 30 rfl (sf_ldC (d := .slice ((idx v0 v27).map eRow)) rfl TT.tyA_38 rfl (LdC.one) ?_)
      refine xz 8 (.d (.slice ((idx v0 v27).map eRow))) ?_
      refine rG ?_
      refine xm 31 (.room 0 v6_2.length) ?_
      refine xm 32 (.d (.slice ((idx v0 v27).map eRow))) ?_
      obtain ⟨c_13, h⟩ := gG h
      refine XK.so (some 33) rfl rfl (so_appW (en := eRow) (l := v6_2) (l2 := (idx v0 v27)) rfl TT.rowA_38 TT.under_38 rfl lay_Row rfl rfl rfl rfl c_13 (by decide) ?_)
      refine xa 6 (.room 1 (v6_2 ++ (idx v0 v27)).length) ?_
      refine XK.nil (blN (nrm ?_))
      refine rG ?_
      obtain ⟨c_14, h⟩ := gG h
      refine xs 34 rfl (sf_add (a := v27) (b := (1 : Int)) rfl rfl rfl c_14 ?_)
      refine xm 27 (pI (v27 + (1 : Int))) ?_
      refine XK.nz ?_
      exact ⟨k_10, by omega, ⟨tab [(6, .room 0 (v6_2 ++ (idx v0 v27)).length), (25, .d (.slice (v0.map (eL eRow)))), (26, pI (v0.length : Int)), (27, pI (v27 + (1 : Int)))], tabH [.wsp 34 (rowC ((v6_2 ++ (idx v0 v27)).map eRow))], 1, []⟩, View.mk 1 [1] _ _ _ rfl rfl (by decide) (iC (iC (iC (iC trivial)))) (And.intro (by simp only [atH1, rowC, PV.res_d]; rfl) trivial) rfl zL rfl, (v6_2 ++ (idx v0 v27)), (v27 + (1 : Int)), by omega, jG h, rfl⟩
    · replace h := bGF h hb_11
      refine QW.exit zL (thX (thX (exE (nrm ?_))))
      refine sR ?_
      refine xm 35 (.room 0 v6_2.length) ?_
      refine xz 2 (.room 0 v6_2.length) ?_
      refine QW.ret zL ?_
      obtain rfl := sG h
      exact EndsS.one (s' := ⟨tab [(2, .vrow 0 0 v6_2.length)], tabH [.var (rowC (v6_2.map eRow))], 1, []⟩) (.inr rfl) (View.trans (View.roomV 0 2 rfl rfl zL) (View.mk 1 [0] _ _ _ rfl rfl (by decide) (iC trivial) (And.intro (by simp only [atH1, rowC, PV.res_d]; rfl) trivial) rfl zL rfl)) rfl bL (fun i hi => tabH_app [.var (rowC (v6_2.map eRow))] [] i hi) rfl (by simp [HO.idsLts, HO.idsLt, PV.idsLts, PV.idsLt, idsLts_d, rowC]) (ResIs.tmp rfl) (by simp [PV.idsLts, PV.idsLt, idsLts_d])
noncomputable def g_pindex_Index_AllR (x0 : Index) : Option (List Row) :=
    ((g_slices_Concat_api_Row_api_RowR (x0.fpages)).bind fun (q_3 : (List Row)) =>
    some q_3)
theorem sim_pindex_Index_AllR (x0 : Index) (r : (List Row)) (h : g_pindex_Index_AllR x0 = some r) : Spec Try.prog 9 [.d (.agg (cIndex x0))] (tabH []) 0 (postX (.ret (.vrow 0 0 r.length)) (tabH [.var (rowC (r.map eRow))]) 1) := by
  refine Spec.of_bodyS Try.func9 rfl (by simp [Try.ntmps9]) bL ?_
  rw [Try.ntmps9, TT.res_9]
  refine QW.view (s' := ⟨tab [(0, .d (.agg (cIndex x0)))], tabH [], 0, []⟩) (View.initP zL (by rfl)) zL ?_
  unfold g_pindex_Index_AllR at h
  refine sR ?_
  refine XK.fz (some 1) rfl rfl (sf_boxF (ds := cIndex x0) rfl rfl rfl rfl rfl ?_)
  refine xz 2 (.full (([] : (List Row)).map eRow)) ?_
  refine sR ?_
  refine xs 3 rfl (sf_fldC rfl TT.fldA_26_0 (by decide) rfl ?_)
  refine xs 4 rfl (sf_ldC (d := .slice ((x0.fpages).map (eL eRow))) rfl TT.tyA_24 rfl (LdC.one) ?_)
  obtain ⟨q_3, hx_2, h⟩ := bO h
  refine XK.fr (p := .vrow 0 0 q_3.length) (H2 := putH _ 0 (some (.var (rowC (q_3.map eRow))))) (nx2 := 1) (some 5) rfl rfl (xcall_frame [] rfl rfl TT.enters_20 (sim_slices_Concat_api_Row_api_RowR (x0.fpages) _ hx_2) rfl rfl (by decide) trivial bL) rfl (by simp only [putsR, lv, HO.re, rowC, PV.res_d, res_app]; rfl) rfl ?_
  refine xz 2 (.vrow 0 0 q_3.length) ?_
  refine QW.ret zL ?_
  obtain rfl := sO h
  exact EndsS.one (s' := ⟨tab [(2, .vrow 0 0 q_3.length)], tabH [.var (rowC (q_3.map eRow))], 1, []⟩) (.inr rfl) (View.mk 1 [0] _ _ _ rfl rfl (by decide) (iC trivial) (And.intro (by simp only [atH1, rowC, PV.res_d]; rfl) trivial) rfl zL rfl) rfl bL (fun i hi => tabH_app [.var (rowC (q_3.map eRow))] [] i hi) rfl (by simp [HO.idsLts, HO.idsLt, PV.idsLts, PV.idsLt, idsLts_d, rowC]) (ResIs.tmp rfl) (by simp [PV.idsLts, PV.idsLt, idsLts_d])
inductive C_slices_DeleteFunc_api_Row_api_Row where
  | S
  | L1 (v5_3 : Int) (v6_2 : Int) (c0_2 : (List Row))
noncomputable def step_slices_DeleteFunc_api_Row_api_Row (f1 : Row → Option Bool) (v0 : (List Row)) : C_slices_DeleteFunc_api_Row_api_Row → Option (C_slices_DeleteFunc_api_Row_api_Row ⊕ (List Row))
  | .S =>
    ((g_slices_IndexFunc_api_Row_api_Row v0 f1).bind fun (x_1 : Int) =>
    (bif (decide (x_1 = (-1 : Int))) then
    some (.inr v0)
    else
    gO (inI (x_1 + (1 : Int))) (
    some (.inl (.L1 x_1 (x_1 + (1 : Int)) v0)))))
  | .L1 v5_3 v6_2 c0_2 =>
    (bif (decide (v6_2 < ((v0.length : Nat) : Int))) then
    ((gO (0 ≤ v6_2 ∧ v6_2 < ((v0.length : Nat) : Int)) (
    gO (0 ≤ v6_2 ∧ v6_2 < (c0_2.length : Int)) (
    ((f1 (idx c0_2 v6_2)).bind fun (x_9 : Bool) =>
    (bif (!x_9) then
    gO (0 ≤ v5_3 ∧ v5_3 < ((v0.length : Nat) : Int)) (
    gO (0 ≤ v5_3 ∧ v5_3 < (c0_2.length : Int)) (
    gO (inI (v5_3 + (1 : Int))) (
    some ((v5_3 + (1 : Int)), (c0_2.set v5_3.toNat (idx c0_2 v6_2))))))
    else
    some (v5_3, c0_2))))) : Option (Int × (List Row))).bind fun (v5_6, c0_5) =>
    gO (inI (v6_2 + (1 : Int))) (
    some (.inl (.L1 v5_6 (v6_2 + (1 : Int)) c0_5))))
    else
    gO (0 ≤ v5_3 ∧ v5_3 ≤ ((v0.length : Nat) : Int) ∧ ((v0.length : Nat) : Int) ≤ ((v0.length : Nat) : Int)) (
    gO ((v0.length) = c0_2.length) (
    gO (0 ≤ (0 : Int) ∧ (0 : Int) ≤ v5_3 ∧ v5_3 ≤ ((v0.length : Nat) : Int)) (
    gO (((v5_3 - (0 : Int)).toNat) = (c0_2.take v5_3.toNat).length) (
    some (.inr (c0_2.take v5_3.toNat)))))))
noncomputable def g_slices_DeleteFunc_api_Row_api_Row (f1 : Row → Option Bool) (v0 : (List Row)) : Option (List Row) := theC (step_slices_DeleteFunc_api_Row_api_Row f1 v0) .S
theorem sim_slices_DeleteFunc_api_Row_api_Row (f1 : Row → Option Bool) (fn1 : Nat) (cp1 : List D) (he1 : entersB Try.prog fn1 = true) (hf1 : ∀ y0 r, f1 y0 = some r → Fun Try.prog fn1 ([.agg (cRow y0)] ++ cp1) (.val (.bool r))) (v0 : (List Row)) (r : (List Row)) (h : g_slices_DeleteFunc_api_Row_api_Row f1 v0 = some r) : Spec Try.prog 46 [.vrow 0 0 v0.length, .d (.clo fn1 cp1)] (tabH [.var (rowC (v0.map eRow))]) 1 (postX (.ret (.d (.slice (r.map eRow)))) (tabH [.dead]) 1) := by
  refine Spec.of_bodyS Try.func46 rfl (by simp [Try.ntmps46]) bL ?_
  rw [Try.ntmps46, TT.res_46]
  refine QW.view (s' := ⟨tab [(0, .vrow 0 0 v0.length), (1, .d (.clo fn1 cp1))], tabH [.var (rowC (v0.map eRow))], 1, []⟩) (View.initP bL (by rfl)) bL ?_
  replace h := theC_get h
  obtain ⟨_, h⟩ := h
  obtain ⟨k_0, rfl, h9⟩ := run_succ h; replace h := h9; clear h9; rw [step_slices_DeleteFunc_api_Row_api_Row] at h
  refine sRb ?_
  refine xz 4 (.full (([] : (List Row)).map eRow)) ?_
  refine sRb ?_
  refine xm 8 (.vrow 0 0 v0.length) ?_
  refine xm 9 (.d (.clo fn1 cp1)) ?_
  obtain ⟨x_1, hx_2, h⟩ := bG h
  refine XK.so (some 10) rfl rfl (so_peek (l := v0.map eRow) rfl rfl rfl TT.enters_66 rfl rfl (by simp) rfl (sim_slices_IndexFunc_api_Row_api_Row v0 f1 fn1 cp1 he1 hf1 _ hx_2) ?_)
  refine xz 5 (pI x_1) ?_
  refine QW.seq ?_
  refine sRb ?_
  refine xm 11 (pI x_1) ?_
  refine xs 12 rfl (sf_eq (a := x_1) (b := (-1 : Int)) rfl rfl rfl ?_)
  refine XK.nz ?_
  refine QW.cond (t := (decide (x_1 = (-1 : Int)))) rfl bL (fun hb_3 => ?_) (fun hb_3 => ?_)
  · replace h := bGT h hb_3
    refine sRb ?_
    refine xm 13 (.vrow 0 0 v0.length) ?_
    refine xz 4 (.vrow 0 0 v0.length) ?_
    refine QW.ret bL (thR ?_)
    obtain rfl := sG h
    exact EndsS.one (s' := ⟨tab [(4, .d (.slice (v0.map eRow)))], tabH [.dead], 1, []⟩) (.inr rfl) (View.trans (View.freezeR0 (en := eRow) (l := v0) 0 4 rfl rfl rfl bL) (View.mk 1 [0] _ _ _ rfl rfl (by decide) (iC trivial) (And.intro trivial trivial) rfl bL rfl)) rfl bL (fun i hi => tabH_app [.dead] [] i hi) rfl (by simp [HO.idsLts, HO.idsLt, PV.idsLts, PV.idsLt, idsLts_d, rowC]) (ResIs.tmp rfl) (by simp [PV.idsLts, PV.idsLt, idsLts_d])
  · replace h := bGF h hb_3
    refine QW.skip bL (nrm ?_)
    refine QW.seq ?_
    refine sRb ?_
    refine xm 14 (pI x_1) ?_
    obtain ⟨c_4, h⟩ := gG h
    refine xs 15 rfl (sf_add (a := x_1) (b := (1 : Int)) rfl rfl rfl c_4 ?_)
    refine xz 6 (pI (x_1 + (1 : Int))) ?_
    refine QW.block ?_
    refine QW.loop (fun k σ => ∃ v5_3 : Int, ∃ v6_2 : Int, ∃ c0_2 : (List Row), k ≤ k_0 ∧ run (step_slices_DeleteFunc_api_Row_api_Row f1 v0) k (.L1 v5_3 v6_2 c0_2) = some r ∧ σ = ⟨tab [(0, .vrow 0 0 v0.length), (1, .d (.clo fn1 cp1)), (5, pI v5_3), (6, pI v6_2)], tabH [.var (rowC (c0_2.map eRow))], 1, []⟩) k_0 bL ⟨⟨tab [(0, .vrow 0 0 v0.length), (1, .d (.clo fn1 cp1)), (5, pI x_1), (6, pI (x_1 + (1 : Int)))], tabH [.var (rowC (v0.map eRow))], 1, []⟩, View.mk 1 [0] _ _ _ rfl rfl (by decide) (iC (iC (iC (iC trivial)))) (And.intro (by simp only [atH1, rowC, PV.res_d]; rfl) trivial) rfl bL rfl, x_1, (x_1 + (1 : Int)), v0, Nat.le_refl _, jG h, rfl⟩ ?_
    rintro k_5s _ ⟨v5_3, v6_2, c0_2, k_5h, h, rfl⟩
    obtain ⟨k_5, rfl, h9⟩ := run_succ h; replace h := h9; clear h9; rw [step_slices_DeleteFunc_api_Row_api_Row] at h
    refine QW.seq ?_
    refine sRb ?_
    refine xm 16 (pI v6_2) ?_
    refine xm 17 (.vrow 0 0 v0.length) ?_
    refine XK.so (some 18) rfl rfl (so_lenR rfl TT.under_38 rfl ?_)
    refine xs 19 rfl (sf_lss (a := v6_2) (b := ((v0.length : Nat) : Int)) rfl rfl rfl ?_)
    refine XK.nz ?_
    refine QW.cond (t := (decide (v6_2 < ((v0.length : Nat) : Int)))) rfl bL (fun hb_6 => ?_) (fun hb_6 => ?_)
    · replace h := bGT h hb_6
      refine QW.skip bL (nrm ?_)
      obtain ⟨⟨v5_6, c0_5⟩, hq, h⟩ := bG h
      refine QW.seqI (fun s' => s' = ⟨tab [(0, .vrow 0 0 v0.length), (1, .d (.clo fn1 cp1)), (5, pI v5_6), (6, pI v6_2)], tabH [.var (rowC (c0_5.map eRow))], 1, []⟩) ?_ ?_
      · replace h := hq; clear hq
        refine QW.block ?_
        refine sRb ?_
        refine xm 22 (.vrow 0 0 v0.length) ?_
        refine xm 23 (pI v6_2) ?_
        obtain ⟨c_7, h⟩ := gO_get h
        obtain ⟨c_8, h⟩ := gO_get h
        refine XK.so (some 24) rfl rfl (so_idxR (i := v6_2) rfl TT.slcA_38 rfl rfl c_7 ?_)
        refine XK.as (some 25) rfl rfl (sf_ldV (v := .agg ((cRow (idx c0_2 v6_2)).map .d)) rfl TT.tyA_44 rfl rfl (ldv_rowA lay_Row (by decide) c_8) ⟨.d (.agg (cRow (idx c0_2 v6_2))), imp_arr, ?_⟩)
        refine xs 7 rfl (sf_alloc (l := ((cRow (⟨(Arr.rep 32 (0 : UInt8)), (0 : Int), ([] : (List UInt8))⟩ : Row)).map .d)) rfl TT.zeroA_44 rfl rfl ?_)
        refine XK.st none rfl rfl (sf_stV (l' := ((cRow (idx c0_2 v6_2)).map .d)) rfl TT.tyA_44 rfl rfl rfl rfl rfl (len_dd (lay_Row.len _)) (le_dd (lay_Row.len _)) (spl_dd ((lay_Row.len _).trans (lay_Row.len _).symm)) ?_)
        refine XK.nz ?_
        refine sRb ?_
        refine xm 26 (.d (.clo fn1 cp1)) ?_
        refine XK.as (some 27) rfl rfl (sf_ldV (v := .agg ((cRow (idx c0_2 v6_2)).map .d)) rfl TT.tyA_44 rfl rfl (ldv_dd (lay_Row.len _) (by decide)) ⟨.d (.agg (cRow (idx c0_2 v6_2))), imp_arr, ?_⟩)
        obtain ⟨x_9, hx_10, h⟩ := bO h
        refine xs 28 rfl (sf_clo rfl rfl rfl he1 rfl (hf1 (idx c0_2 v6_2) _ hx_10) ?_)
        refine xs 29 rfl (sf_not rfl rfl ?_)
        refine XK.nz ?_
        refine QW.cond (t := (!x_9)) rfl bL (fun hb_11 => ?_) (fun hb_11 => ?_)
        · replace h := bT h hb_11
          refine sRb ?_
          refine xm 30 (.vrow 0 0 v0.length) ?_
          refine xm 31 (pI v5_3) ?_
          refine XK.as (some 32) rfl rfl (sf_ldV (v := .agg ((cRow (idx c0_2 v6_2)).map .d)) rfl TT.tyA_44 rfl rfl (ldv_dd (lay_Row.len _) (by decide)) ⟨.d (.agg (cRow (idx c0_2 v6_2))), imp_arr, ?_⟩)
          obtain ⟨c_12, h⟩ := gO_get h
          obtain ⟨c_13, h⟩ := gO_get h
          refine XK.so (some 33) rfl rfl (so_idxR (i := v5_3) rfl TT.slcA_38 rfl rfl c_12 ?_)
          refine XK.st none rfl rfl (sf_stV (c := (cRow (idx c0_2 v6_2)).map .d) (l' := (rowC ((c0_2.set v5_3.toNat (idx c0_2 v6_2)).map eRow))) rfl TT.tyA_44 rfl rfl rfl rfl rfl (by rw [List.length_map, lay_Row.len]) (le_row lay_Row c_13) (spl_row lay_Row c_13) ?_)
          refine XK.nz ?_
          refine rGb ?_
          refine xm 34 (pI v5_3) ?_
          obtain ⟨c_14, h⟩ := gO_get h
          refine xs 35 rfl (sf_add (a := v5_3) (b := (1 : Int)) rfl rfl rfl c_14 ?_)
          refine xa 5 (pI (v5_3 + (1 : Int))) ?_
          refine XK.nil (blN (nrm ?_))
          simp only [Option.some.injEq, Prod.mk.injEq] at h
          obtain ⟨rfl, rfl⟩ := h
          exact ⟨⟨tab [(0, .vrow 0 0 v0.length), (1, .d (.clo fn1 cp1)), (5, pI (v5_3 + (1 : Int))), (6, pI v6_2)], tabH [.var (rowC ((c0_2.set v5_3.toNat (idx c0_2 v6_2)).map eRow))], 1, []⟩, View.mk 1 [0] _ _ _ rfl rfl (by decide) (iC (iC (iC (iC trivial)))) (And.intro (by simp only [atH1, rowC, PV.res_d]; rfl) trivial) rfl bL rfl, rfl⟩
        · replace h := bF h hb_11
          refine QW.skip bL (blN (nrm ?_))
          simp only [Option.some.injEq, Prod.mk.injEq] at h
          obtain ⟨rfl, rfl⟩ := h
          exact ⟨⟨tab [(0, .vrow 0 0 v0.length), (1, .d (.clo fn1 cp1)), (5, pI v5_3), (6, pI v6_2)], tabH [.var (rowC (c0_2.map eRow))], 1, []⟩, View.mk 1 [0] _ _ _ rfl rfl (by decide) (iC (iC (iC (iC trivial)))) (And.intro (by simp only [atH1, rowC, PV.res_d]; rfl) trivial) rfl bL rfl, rfl⟩
      · rintro _ rfl
        refine rGb ?_
        refine xm 20 (pI v6_2) ?_
        obtain ⟨c_15, h⟩ := gG h
        refine xs 21 rfl (sf_add (a := v6_2) (b := (1 : Int)) rfl rfl rfl c_15 ?_)
        refine xz 6 (pI (v6_2 + (1 : Int))) ?_
        exact ⟨k_5, by omega, ⟨tab [(0, .vrow 0 0 v0.length), (1, .d (.clo fn1 cp1)), (5, pI v5_6), (6, pI (v6_2 + (1 : Int)))], tabH [.var (rowC (c0_5.map eRow))], 1, []⟩, View.mk 1 [0] _ _ _ rfl rfl (by decide) (iC (iC (iC (iC trivial)))) (And.intro (by simp only [atH1, rowC, PV.res_d]; rfl) trivial) rfl bL rfl, v5_6, (v6_2 + (1 : Int)), c0_5, by omega, jG h, rfl⟩
    · replace h := bGF h hb_6
      refine QW.exit bL (thX (thX (exE (nrm ?_))))
      refine sRb ?_
      refine xm 36 (.vrow 0 0 v0.length) ?_
      refine xm 37 (pI v5_3) ?_
      obtain ⟨c_16, h⟩ := gG h
      refine XK.so (some 38) rfl rfl (so_slR (p := v5_3) (q := ((v0.length : Nat) : Int)) rfl TT.slcA_38 rfl rfl rfl c_16 ?_)
      obtain ⟨c_17, h⟩ := gG h
      refine XK.so none rfl rfl (so_clear (l' := (rowC ((c0_2.take v5_3.toNat).map eRow))) rfl TT.rowA_38 TT.rowZ_38 rfl rfl (clr_le lay_Row c_16 c_17) (clr_take lay_Row c_16 c_17) ?_)
      refine XK.nz ?_
      refine sRb ?_
      refine xm 39 (.vrow 0 0 v0.length) ?_
      refine xm 40 (pI v5_3) ?_
      obtain ⟨c_18, h⟩ := gG h
      refine XK.so (some 41) rfl rfl (so_slR (p := (0 : Int)) (q := v5_3) rfl TT.slcA_38 rfl rfl rfl c_18 ?_)
      refine xz 4 (.vrow 0 0 (v5_3 - (0 : Int)).toNat) ?_
      refine QW.ret bL ?_
      obtain ⟨c_19, h⟩ := gG h
      obtain rfl := sG h
      exact EndsS.one (s' := ⟨tab [(4, .d (.slice ((c0_2.take v5_3.toNat).map eRow)))], tabH [.dead], 1, []⟩) (.inr rfl) (View.trans (View.freezeR0 (en := eRow) (l := (c0_2.take v5_3.toNat)) 0 4 rfl rfl c_19 bL) (View.mk 1 [0] _ _ _ rfl rfl (by decide) (iC trivial) (And.intro trivial trivial) rfl bL rfl)) rfl bL (fun i hi => tabH_app [.dead] [] i hi) rfl (by simp [HO.idsLts, HO.idsLt, PV.idsLts, PV.idsLt, idsLts_d, rowC]) (ResIs.tmp rfl) (by simp [PV.idsLts, PV.idsLt, idsLts_d])
noncomputable def g_pindex_Index_Of (x0 : Index) (s1 : (Arr 32 UInt8)) : Option (List Row) :=
    ((g_pindex_Index_AllR x0).bind fun (q_3 : (List Row)) =>
    ((g_slices_DeleteFunc_api_Row_api_Row (fun y0 => g_pindex_Index_Of_1 y0 s1) q_3).bind fun (q_6 : (List Row)) =>
    some q_6))
theorem sim_pindex_Index_Of (x0 : Index) (s1 : (Arr 32 UInt8)) (r : (List Row)) (h : g_pindex_Index_Of x0 s1 = some r) : Fun Try.prog 23 [.agg (cIndex x0), .agg (s1.1.map byteD)] (.slice (r.map eRow)) := by
  refine Fun.of_bodyQ Try.func23 rfl (by simp [Try.ntmps23]) ?_
  rw [Try.ntmps23, TT.res_23]
  refine QW.view (s' := ⟨tab [(0, .d (.agg (cIndex x0))), (1, .d (.agg (s1.1.map byteD)))], tabH [], 0, []⟩) (View.init (by rfl)) zL ?_
  unfold g_pindex_Index_Of at h
  refine sR ?_
  refine XK.fz (some 2) rfl rfl (sf_boxF (ds := cIndex x0) rfl rfl rfl rfl rfl ?_)
  refine XK.fz (some 3) rfl rfl (sf_boxF (ds := s1.1.map byteD) rfl rfl rfl rfl toDs_map ?_)
  refine xz 4 (.full (([] : (List Row)).map eRow)) ?_
  refine sR ?_
  refine xs 5 rfl (sf_ldC (d := .agg (cIndex x0)) rfl TT.tyA_26 rfl (⟨by simp [cIndex], rfl⟩) ?_)
  obtain ⟨q_3, hx_2, h⟩ := bO h
  refine XK.fr (p := .vrow 0 0 q_3.length) (H2 := putH _ 0 (some (.var (rowC (q_3.map eRow))))) (nx2 := 1) (some 6) rfl rfl (xcall_frame [] rfl rfl TT.enters_9 (sim_pindex_Index_AllR x0 _ hx_2) rfl rfl (by decide) trivial bL) rfl (by simp only [putsR, lv, HO.re, rowC, PV.res_d, res_app]; rfl) rfl ?_
  refine xs 7 rfl (sf_func rfl rfl ?_)
  obtain ⟨q_6, hx_5, h⟩ := bO h
  refine XK.fr (p := .d (.slice (q_6.map eRow))) (H2 := putH _ 0 none) (nx2 := 1) (some 8) rfl rfl (xcall_frame [0] rfl rfl TT.enters_46 (sim_slices_DeleteFunc_api_Row_api_Row (fun y0 => g_pindex_Index_Of_1 y0 s1) 47 [.cptr (s1.1.map byteD)] TT.enters_47 (fun y0 _ h => sim_pindex_Index_Of_1 y0 s1 _ h) q_3 _ hx_5) rfl rfl (by decide) (And.intro (by simp only [HO.re, rowC, PV.res_d]; rfl) trivial) bL) rfl rfl rfl ?_
  refine xz 4 (.d (.slice (q_6.map eRow))) ?_
  refine QW.ret zL ?_
  obtain rfl := sO h
  exact Ends.one (.inr rfl) rfl (ResIs.tmp rfl) rfl rfl
noncomputable def g_slices_Clone_LL_api_Row_api_Row (v0 : (List (List Row))) : Option (List (List Row)) :=
    gO ((([] : List (List Row)).length + v0.length) * 24 ≤ 140737488355328) (
    some (([] : List (List Row)) ++ v0))
theorem sim_slices_Clone_LL_api_Row_api_Row (v0 : (List (List Row))) (r : (List (List Row))) (h : g_slices_Clone_LL_api_Row_api_Row v0 = some r) : Spec Try.prog 53 [.d (.slice (v0.map (eL eRow)))] (tabH []) 0 (postX (.ret (.own 0 (r.map (eL eRow)))) (tabH [.spare 1 r.length]) 1) := by
  refine Spec.of_bodyS Try.func53 rfl (by simp [Try.ntmps53]) bL ?_
  rw [Try.ntmps53, TT.res_53]
  refine QW.view (s' := ⟨tab [(0, .d (.slice (v0.map (eL eRow))))], tabH [], 0, []⟩) (View.initP zL (by rfl)) zL ?_
  unfold g_slices_Clone_LL_api_Row_api_Row at h
  refine sR ?_
  refine xz 2 (.full (([] : (List (List Row))).map (eL eRow))) ?_
  refine QW.seq ?_
  refine sR ?_
  refine xm 3 (.d (.slice (v0.map (eL eRow)))) ?_
  refine XK.nt (l := v0) (some 4) rfl rfl rfl TT.under_24 rfl (fun e0 => ?_) ?_
  · refine XK.nz ?_
    refine QW.condT rfl ?_
    refine sR ?_
    refine xz 2 (.full (([] : (List (List Row))).map (eL eRow))) ?_
    refine QW.ret zL (thR ?_)
    subst e0; obtain ⟨_, h⟩ := gO_get h; obtain rfl := sO h
    exact EndsS.one (s' := ⟨tab [(2, .own 0 (([] : (List (List Row))).map (eL eRow)))], tabH [.spare 1 ([] : (List (List Row))).length], 1, []⟩) (.inr rfl) (View.trans (View.buf 2 1 rfl zL) (View.mk 1 [0] _ _ _ rfl rfl (by decide) (iC trivial) (And.intro rfl trivial) rfl zL rfl)) rfl bL (fun i hi => tabH_app [.spare 1 ([] : (List (List Row))).length] [] i hi) rfl (by simp [HO.idsLts, HO.idsLt, PV.idsLts, PV.idsLt, idsLts_d, rowC]) (ResIs.tmp rfl) (by simp [PV.idsLts, PV.idsLt, idsLts_d])
  · refine XK.nz ?_
    refine QW.condF rfl ?_
    refine QW.skip zL (nrm ?_)
    refine sR ?_
    refine xs 5 rfl (sf_row (en := (eL eRow)) (l := ([] : List (List Row))) rfl TT.rowA_24 lay_L rfl rfl (by decide) (by simp [solids, partsP, evP, ofVal, PV.solid, putS_at, tab, unS, unT, unC, asCond, Value.oneCell']) ?_)
    refine xm 6 (.d (.slice (v0.map (eL eRow)))) ?_
    obtain ⟨c_1, h⟩ := gO_get h
    refine xs 7 rfl (sf_appF (en := (eL eRow)) (l := ([] : List (List Row))) (l2 := v0) rfl TT.rowA_24 TT.under_24 rfl lay_L rfl rfl ⟨c_1, fun _ => rfl⟩ (by decide) ?_)
    refine xz 2 (.own 0 ((([] : List (List Row)) ++ v0).map (eL eRow))) ?_
    refine QW.ret zL ?_
    obtain rfl := sO h
    exact EndsS.one (s' := ⟨tab [(2, .own 0 ((([] : List (List Row)) ++ v0).map (eL eRow)))], tabH [.spare 1 (([] : List (List Row)) ++ v0).length], 1, []⟩) (.inr rfl) (View.mk 1 [0] _ _ _ rfl rfl (by decide) (iC trivial) (And.intro rfl trivial) rfl zL rfl) rfl bL (fun i hi => tabH_app [.spare 1 (([] : List (List Row)) ++ v0).length] [] i hi) rfl (by simp [HO.idsLts, HO.idsLt, PV.idsLts, PV.idsLt, idsLts_d, rowC]) (ResIs.tmp rfl) (by simp [PV.idsLts, PV.idsLt, idsLts_d])
inductive C_pindex_Index_with where
  | S
  | L1 (v9_2 : (List (List Row))) (v19 : Int)
noncomputable def step_pindex_Index_with (x0 : Index) (from1 : Int) (to2 : Int) (pages3 : (List (List Row))) : C_pindex_Index_with → Option (C_pindex_Index_with ⊕ Index)
  | .S =>
    gO (0 ≤ (0 : Int) ∧ (0 : Int) ≤ from1 ∧ from1 ≤ ((x0.fpages).length : Int)) (
    ((g_slices_Clone_LL_api_Row_api_Row (sub (x0.fpages) (0 : Int) from1)).bind fun (q_4 : (List (List Row))) =>
    some (.inl (.L1 q_4 (0)))))
  | .L1 v9_2 v19 =>
    (bif (decide (v19 < (pages3.length : Int))) then
    gO (0 ≤ v19 ∧ v19 < (pages3.length : Int)) (
    (bif (decide ((0 : Int) < ((idx pages3 v19).length : Int))) then
    gO ((v9_2.length + ([(idx pages3 v19)] : List (List Row)).length) * 24 ≤ 140737488355328) (
    gO (inI (v19 + (1 : Int))) (
    some (.inl (.L1 (v9_2 ++ ([(idx pages3 v19)] : List (List Row))) (v19 + (1 : Int))))))
    else
    gO (inI (v19 + (1 : Int))) (
    some (.inl (.L1 v9_2 (v19 + (1 : Int)))))))
    else
    gO (0 ≤ to2 ∧ to2 ≤ ((x0.fpages).length : Int) ∧ ((x0.fpages).length : Int) ≤ ((x0.fpages).length : Int)) (
    gO ((v9_2.length + (sub (x0.fpages) to2 ((x0.fpages).length : Int)).length) * 24 ≤ 140737488355328) (
    some (.inr (⟨(v9_2 ++ (sub (x0.fpages) to2 ((x0.fpages).length : Int)))⟩ : Index)))))
noncomputable def g_pindex_Index_with (x0 : Index) (from1 : Int) (to2 : Int) (pages3 : (List (List Row))) : Option Index := theC (step_pindex_Index_with x0 from1 to2 pages3) .S
theorem sim_pindex_Index_with (x0 : Index) (from1 : Int) (to2 : Int) (pages3 : (List (List Row))) (r : Index) (h : g_pindex_Index_with x0 from1 to2 pages3 = some r) : Fun Try.prog 28 [.agg (cIndex x0), .val (.int .i64 from1), .val (.int .i64 to2), .slice (pages3.map (eL eRow))] (.agg (cIndex r)) := by
  refine Fun.of_bodyQ Try.func28 rfl (by simp [Try.ntmps28]) ?_
  rw [Try.ntmps28, TT.res_28]
  refine QW.view (s' := ⟨tab [(0, .d (.agg (cIndex x0))), (1, pI from1), (2, pI to2), (3, .d (.slice (pages3.map (eL eRow))))], tabH [], 0, []⟩) (View.init (by rfl)) zL ?_
  replace h := theC_get h
  obtain ⟨_, h⟩ := h
  obtain ⟨k_0, rfl, h9⟩ := run_succ h; replace h := h9; clear h9; rw [step_pindex_Index_with] at h
  refine sR ?_
  refine XK.fz (some 4) rfl rfl (sf_boxF (ds := cIndex x0) rfl rfl rfl rfl rfl ?_)
  refine xs 8 rfl (sf_alloc (l := [.full (([] : (List (List Row))).map (eL eRow))]) rfl TT.zeroA_26 rfl rfl ?_)
  refine XK.nz ?_
  refine sR ?_
  refine xs 12 rfl (sf_fldC rfl TT.fldA_26_0 (by decide) rfl ?_)
  refine xs 13 rfl (sf_ldC (d := .slice ((x0.fpages).map (eL eRow))) rfl TT.tyA_24 rfl (LdC.one) ?_)
  refine xm 14 (pI from1) ?_
  obtain ⟨c_1, h⟩ := gG h
  refine xs 15 rfl (sf_subL (l := x0.fpages) (a := (0 : Int)) (b := from1) rfl TT.under_24 TT.slcA_24 lay_L rfl rfl rfl c_1 ?_)
  obtain ⟨q_4, hx_3, h⟩ := bG h
  refine XK.fr (p := .own 1 (q_4.map (eL eRow))) (H2 := putH _ 1 (some (.spare 1 q_4.length))) (nx2 := 2) (some 16) rfl rfl (xcall_frame [] rfl rfl TT.enters_53 (sim_slices_Clone_LL_api_Row_api_Row (sub (x0.fpages) (0 : Int) from1) _ hx_3) rfl rfl (by decide) trivial bL) rfl rfl rfl ?_
  refine xz 9 (.own 1 (q_4.map (eL eRow))) ?_
  refine QW.seq ?_
  refine sR ?_
  refine xm 17 (.d (.slice (pages3.map (eL eRow)))) ?_
  refine xs 18 rfl (sf_lenL (en := (eL eRow)) (l := pages3) rfl TT.under_24 rfl ?_)
  refine xm 19 (pI (0)) ?_
  refine XK.nz ?_
  refine QW.block ?_
  refine QW.loop (fun k σ => ∃ v9_2 : (List (List Row)), ∃ v19 : Int, k ≤ k_0 ∧ run (step_pindex_Index_with x0 from1 to2 pages3) k (.L1 v9_2 v19) = some r ∧ σ = ⟨tab [(2, pI to2), (4, .d (.cptr (cIndex x0))), (8, .vptr 0 0), (9, .own 1 (v9_2.map (eL eRow))), (17, .d (.slice (pages3.map (eL eRow)))), (18, pI (pages3.length : Int)), (19, pI v19)], tabH [.var [.full (([] : (List (List Row))).map (eL eRow))], .spare 1 v9_2.length], 2, []⟩) k_0 zL ⟨⟨tab [(2, pI to2), (4, .d (.cptr (cIndex x0))), (8, .vptr 0 0), (9, .own 1 (q_4.map (eL eRow))), (17, .d (.slice (pages3.map (eL eRow)))), (18, pI (pages3.length : Int)), (19, pI (0))], tabH [.var [.full (([] : (List (List Row))).map (eL eRow))], .spare 1 q_4.length], 2, []⟩, View.mk 2 [0, 1] _ _ _ rfl rfl (by decide) (iC (iC (iC (iC (iC (iC (iC trivial))))))) (And.intro rfl (And.intro rfl trivial)) rfl zL rfl, q_4, 0, Nat.le_refl _, jG h, rfl⟩ ?_
  rintro k_5s _ ⟨v9_2, v19, k_5h, h, rfl⟩
  obtain ⟨k_5, rfl, h9⟩ := run_succ h; replace h := h9; clear h9; rw [step_pindex_Index_with] at h
  refine sR ?_
  refine xs 20 rfl (sf_lss (a := v19) (b := (pages3.length : Int)) rfl rfl rfl ?_)
  refine XK.nz ?_
  refine QW.seq ?_
  refine QW.cond (t := (decide (v19 < (pages3.length : Int)))) rfl zL (fun hb_6 => ?_) (fun hb_6 => ?_)
  · replace h := bGT h hb_6
    refine QW.skip zL (nrm ?_)
    refine QW.seq ?_
    refine QW.block ?_
    refine sR ?_
    obtain ⟨c_7, h⟩ := gG h
    refine xs 21 rfl (sf_idxA (l := pages3) (i := v19) rfl TT.slcA_24 lay_L rfl rfl c_7 ?_)
    refine xs 22 rfl (sf_ldC (d := .slice ((idx pages3 v19).map eRow)) rfl TT.tyA_38 rfl (LdC.one) ?_)
    refine xz 11 (.d (.slice ((idx pages3 v19).map eRow))) ?_
    refine sR ?_
    refine xm 23 (.d (.slice ((idx pages3 v19).map eRow))) ?_
    refine xs 24 rfl (sf_lenL (en := eRow) (l := (idx pages3 v19)) rfl TT.under_38 rfl ?_)
    refine xs 25 rfl (sf_gtr (a := ((idx pages3 v19).length : Int)) (b := (0 : Int)) rfl rfl rfl ?_)
    refine XK.nz ?_
    refine QW.cond (t := (decide ((0 : Int) < ((idx pages3 v19).length : Int)))) rfl zL (fun hb_8 => ?_) (fun hb_8 => ?_)
    · replace h := bGT h hb_8
      refine rG ?_
      refine xm 26 (.own 1 (v9_2.map (eL eRow))) ?_
      refine xm 27 (.d (.slice ((idx pages3 v19).map eRow))) ?_
      refine xs 28 rfl (sf_row (en := (eL eRow)) (l := ([(idx pages3 v19)] : List (List Row))) rfl TT.rowA_24 lay_L rfl rfl (by decide) (by simp [solids, partsP, evP, ofVal, PV.solid, putS_at, tab, unS, unT, unC, asCond, Value.oneCell']) ?_)
      obtain ⟨c_9, h⟩ := gG h
      refine xs 29 rfl (sf_appO (en := (eL eRow)) (l := v9_2) (l2 := ([(idx pages3 v19)] : List (List Row))) rfl TT.rowA_24 TT.under_24 rfl lay_L rfl rfl rfl c_9 (by decide) ?_)
      refine xa 9 (.own 2 ((v9_2 ++ ([(idx pages3 v19)] : List (List Row))).map (eL eRow))) ?_
      refine XK.nil (blN (nrm ?_))
      refine rG ?_
      obtain ⟨c_10, h⟩ := gG h
      refine xs 30 rfl (sf_add (a := v19) (b := (1 : Int)) rfl rfl rfl c_10 ?_)
      refine xm 19 (pI (v19 + (1 : Int))) ?_
      refine XK.nz ?_
      exact ⟨k_5, by omega, ⟨tab [(2, pI to2), (4, .d (.cptr (cIndex x0))), (8, .vptr 0 0), (9, .own 1 ((v9_2 ++ ([(idx pages3 v19)] : List (List Row))).map (eL eRow))), (17, .d (.slice (pages3.map (eL eRow)))), (18, pI (pages3.length : Int)), (19, pI (v19 + (1 : Int)))], tabH [.var [.full (([] : (List (List Row))).map (eL eRow))], .spare 1 (v9_2 ++ ([(idx pages3 v19)] : List (List Row))).length], 2, []⟩, View.mk 2 [0, 2] _ _ _ rfl rfl (by decide) (iC (iC (iC (iC (iC (iC (iC trivial))))))) (And.intro rfl (And.intro rfl trivial)) rfl zL rfl, (v9_2 ++ ([(idx pages3 v19)] : List (List Row))), (v19 + (1 : Int)), by omega, jG h, rfl⟩
    · replace h := bGF h hb_8
      refine QW.skip zL (blN (nrm ?_))
      refine rG ?_
      obtain ⟨c_11, h⟩ := gG h
      refine xs 30 rfl (sf_add (a := v19) (b := (1 : Int)) rfl rfl rfl c_11 ?_)
      refine xm 19 (pI (v19 + (1 : Int))) ?_
      refine XK.nz ?_
      exact ⟨k_5, by omega, ⟨tab [(2, pI to2), (4, .d (.cptr (cIndex x0))), (8, .vptr 0 0), (9, .own 1 (v9_2.map (eL eRow))), (17, .d (.slice (pages3.map (eL eRow)))), (18, pI (pages3.length : Int)), (19, pI (v19 + (1 : Int)))], tabH [.var [.full (([] : (List (List Row))).map (eL eRow))], .spare 1 v9_2.length], 2, []⟩, View.mk 2 [0, 1] _ _ _ rfl rfl (by decide) (iC (iC (iC (iC (iC (iC (iC trivial))))))) (And.intro rfl (And.intro rfl trivial)) rfl zL rfl, v9_2, (v19 + (1 : Int)), by omega, jG h, rfl⟩
  · replace h := bGF h hb_6
    refine QW.exit zL (thX (thX (exE (nrm ?_))))
    refine sR ?_
    refine xm 31 (.own 1 (v9_2.map (eL eRow))) ?_
    refine xs 32 rfl (sf_fldC rfl TT.fldA_26_0 (by decide) rfl ?_)
    refine xs 33 rfl (sf_ldC (d := .slice ((x0.fpages).map (eL eRow))) rfl TT.tyA_24 rfl (LdC.one) ?_)
    refine xm 34 (pI to2) ?_
    obtain ⟨c_12, h⟩ := gG h
    refine xs 35 rfl (sf_subL (l := x0.fpages) (a := to2) (b := ((x0.fpages).length : Int)) rfl TT.under_24 TT.slcA_24 lay_L rfl rfl rfl c_12 ?_)
    obtain ⟨c_13, h⟩ := gG h
    refine xs 36 rfl (sf_appO (en := (eL eRow)) (l := v9_2) (l2 := (sub (x0.fpages) to2 ((x0.fpages).length : Int))) rfl TT.rowA_24 TT.under_24 rfl lay_L rfl rfl rfl c_13 (by decide) ?_)
    refine xs 37 rfl (sf_bld (v := .agg [.own 2 ((v9_2 ++ (sub (x0.fpages) to2 ((x0.fpages).length : Int))).map (eL eRow))]) rfl TT.bldA_26 (build_of rfl (fill_step (cells' := [.own 2 ((v9_2 ++ (sub (x0.fpages) to2 ((x0.fpages).length : Int))).map (eL eRow))]) rfl rfl rfl bL rfl fill_nil)) ?_)
    refine XK.st none rfl rfl (sf_stV (l' := [.own 2 ((v9_2 ++ (sub (x0.fpages) to2 ((x0.fpages).length : Int))).map (eL eRow))]) rfl TT.tyA_26 rfl rfl rfl rfl rfl rfl (by simp) rfl ?_)
    refine XK.nz ?_
    refine QW.ret zL ?_
    obtain rfl := sG h
    exact Ends.one (.inr rfl) rfl (ResIs.cell rfl rfl TT.tyA_26 ⟨⟨by simp, by simp⟩, rfl⟩) rfl rfl
noncomputable def g_pindex_Index_at_1 (p0 : (List Row)) (v1 : Row) : Option Bool :=
    gO (0 ≤ (0 : Int) ∧ (0 : Int) < (p0.length : Int)) (
    ((g_page_Less v1 (idx p0 (0 : Int))).bind fun (x_2 : Bool) =>
    some x_2))
theorem sim_pindex_Index_at_1 (p0 : (List Row)) (v1 : Row) (r : Bool) (h : g_pindex_Index_at_1 p0 v1 = some r) : Fun Try.prog 55 [.slice (p0.map eRow), .cptr (cRow v1)] (.val (.bool r)) := by
  refine Fun.of_bodyQ Try.func55 rfl (by simp [Try.ntmps55]) ?_
  rw [Try.ntmps55, TT.res_55]
  refine QW.view (s' := ⟨tab [(0, .d (.slice (p0.map eRow))), (1, .d (.cptr (cRow v1)))], tabH [], 0, []⟩) (View.init (by rfl)) zL ?_
  unfold g_pindex_Index_at_1 at h
  refine sR ?_
  refine xz 3 (pB false) ?_
  refine QW.seq ?_
  refine QW.region zL (PW.regQ (id := 1) mixedX (M := _) rfl (by kernel_rfl) ?_)
  refine RQ.st (some 4) rfl rfl (sf_ldC (d := .agg (cRow v1)) rfl TT.tyA_44 rfl (⟨by rw [lay_Row.len]; decide, congrArg D.agg (List.take_of_length_le (by rw [lay_Row.len]; decide))⟩) ⟨⟨rfl, rfl⟩, ?_⟩)
  refine RQ.st (some 5) rfl rfl (sf_move (v := .d (.slice (p0.map eRow))) rfl rfl ⟨⟨rfl, rfl⟩, ?_⟩)
  obtain ⟨c_1, h⟩ := gO_get h
  refine RQ.st (some 6) rfl rfl (sf_idxA (l := p0) (i := (0 : Int)) rfl TT.slcA_38 lay_Row rfl rfl c_1 ⟨⟨rfl, rfl⟩, ?_⟩)
  refine RQ.st (some 7) rfl rfl (sf_ldC (d := .agg (cRow (idx p0 (0 : Int)))) rfl TT.tyA_44 rfl (⟨by rw [lay_Row.len]; decide, congrArg D.agg (List.take_of_length_le (by rw [lay_Row.len]; decide))⟩) ⟨⟨rfl, rfl⟩, ?_⟩)
  obtain ⟨x_2, hx_3, h⟩ := bO h
  refine RQ.st (some 8) rfl rfl (sf_call rfl rfl TT.enters_39 rfl (sim_page_Less v1 (idx p0 (0 : Int)) _ hx_3) ⟨⟨rfl, rfl⟩, ?_⟩)
  refine RQ.st (some 3) rfl rfl (sf_assign (v := pB x_2) rfl rfl ⟨⟨rfl, rfl⟩, ?_⟩)
  refine RQ.nil (nrm ?_)
  refine QW.ret zL ?_
  obtain rfl := sO h
  exact Ends.one (.inr rfl) rfl (ResIs.tmp rfl) rfl rfl
inductive C_slices_IndexFunc_LL_api_Row_api_Row where
  | S
  | L1 (v8 : Int)
noncomputable def step_slices_IndexFunc_LL_api_Row_api_Row (v0 : (List (List Row))) (f1 : (List Row) → Option Bool) : C_slices_IndexFunc_LL_api_Row_api_Row → Option (C_slices_IndexFunc_LL_api_Row_api_Row ⊕ Int)
  | .S =>
    some (.inl (.L1 (0)))
  | .L1 v8 =>
    (bif (decide (v8 < (v0.length : Int))) then
    gO (0 ≤ v8 ∧ v8 < (v0.length : Int)) (
    ((f1 (idx v0 v8)).bind fun (x_4 : Bool) =>
    (bif x_4 then
    some (.inr v8)
    else
    gO (inI (v8 + (1 : Int))) (
    some (.inl (.L1 (v8 + (1 : Int))))))))
    else
    some (.inr (-1)))
noncomputable def g_slices_IndexFunc_LL_api_Row_api_Row (v0 : (List (List Row))) (f1 : (List Row) → Option Bool) : Option Int := theC (step_slices_IndexFunc_LL_api_Row_api_Row v0 f1) .S
theorem sim_slices_IndexFunc_LL_api_Row_api_Row (v0 : (List (List Row))) (f1 : (List Row) → Option Bool) (fn1 : Nat) (cp1 : List D) (he1 : entersB Try.prog fn1 = true) (hf1 : ∀ y0 r, f1 y0 = some r → Fun Try.prog fn1 ([.slice (y0.map eRow)] ++ cp1) (.val (.bool r))) (r : Int) (h : g_slices_IndexFunc_LL_api_Row_api_Row v0 f1 = some r) : Fun Try.prog 54 [.slice (v0.map (eL eRow)), .clo fn1 cp1] (.val (.int .i64 r)) := by
  refine Fun.of_bodyQ Try.func54 rfl (by simp [Try.ntmps54]) ?_
  rw [Try.ntmps54, TT.res_54]
  refine QW.view (s' := ⟨tab [(0, .d (.slice (v0.map (eL eRow)))), (1, .d (.clo fn1 cp1))], tabH [], 0, []⟩) (View.init (by rfl)) zL ?_
  replace h := theC_get h
  obtain ⟨_, h⟩ := h
  obtain ⟨k_0, rfl, h9⟩ := run_succ h; replace h := h9; clear h9; rw [step_slices_IndexFunc_LL_api_Row_api_Row] at h
  refine sR ?_
  refine xz 4 (pI (0)) ?_
  refine QW.seq ?_
  refine sR ?_
  refine xm 6 (.d (.slice (v0.map (eL eRow)))) ?_
  refine xs 7 rfl (sf_lenL (en := (eL eRow)) (l := v0) rfl TT.under_24 rfl ?_)
  refine xm 8 (pI (0)) ?_
  refine XK.nz ?_
  refine QW.block ?_
  refine QW.loop (fun k σ => ∃ v8 : Int, k ≤ k_0 ∧ run (step_slices_IndexFunc_LL_api_Row_api_Row v0 f1) k (.L1 v8) = some r ∧ σ = ⟨tab [(0, .d (.slice (v0.map (eL eRow)))), (1, .d (.clo fn1 cp1)), (7, pI (v0.length : Int)), (8, pI v8)], tabH [], 0, []⟩) k_0 zL ⟨⟨tab [(0, .d (.slice (v0.map (eL eRow)))), (1, .d (.clo fn1 cp1)), (7, pI (v0.length : Int)), (8, pI (0))], tabH [], 0, []⟩, View.mk 0 [] _ _ _ rfl rfl (by decide) (iC (iC (iC (iC trivial)))) trivial rfl zL rfl, 0, Nat.le_refl _, jG h, rfl⟩ ?_
  rintro k_1s _ ⟨v8, k_1h, h, rfl⟩
  obtain ⟨k_1, rfl, h9⟩ := run_succ h; replace h := h9; clear h9; rw [step_slices_IndexFunc_LL_api_Row_api_Row] at h
  refine sR ?_
  refine xs 9 rfl (sf_lss (a := v8) (b := (v0.length : Int)) rfl rfl rfl ?_)
  refine XK.nz ?_
  refine QW.seq ?_
  refine QW.cond (t := (decide (v8 < (v0.length : Int)))) rfl zL (fun hb_2 => ?_) (fun hb_2 => ?_)
  · replace h := bGT h hb_2
    refine QW.skip zL (nrm ?_)
    refine QW.seq ?_
    refine QW.block ?_
    refine sR ?_
    refine xm 10 (pI v8) ?_
    refine xz 5 (pI v8) ?_
    refine sR ?_
    refine xm 11 (.d (.clo fn1 cp1)) ?_
    refine xm 12 (.d (.slice (v0.map (eL eRow)))) ?_
    refine xm 13 (pI v8) ?_
    obtain ⟨c_3, h⟩ := gG h
    refine xs 14 rfl (sf_idxA (l := v0) (i := v8) rfl TT.slcA_24 lay_L rfl rfl c_3 ?_)
    refine xs 15 rfl (sf_ldC (d := .slice ((idx v0 v8).map eRow)) rfl TT.tyA_38 rfl (LdC.one) ?_)
    obtain ⟨x_4, hx_5, h⟩ := bG h
    refine xs 16 rfl (sf_clo rfl rfl rfl he1 rfl (hf1 (idx v0 v8) _ hx_5) ?_)
    refine XK.nz ?_
    refine QW.cond (t := x_4) rfl zL (fun hb_6 => ?_) (fun hb_6 => ?_)
    · replace h := bGT h hb_6
      refine sR ?_
      refine xm 17 (pI v8) ?_
      refine xz 4 (pI v8) ?_
      refine QW.ret zL (blR (thR (thR (blR (thR ?_)))))
      obtain rfl := sG h
      exact Ends.one (.inr rfl) rfl (ResIs.tmp rfl) rfl rfl
    · replace h := bGF h hb_6
      refine QW.skip zL (blN (nrm ?_))
      refine rG ?_
      obtain ⟨c_7, h⟩ := gG h
      refine xs 18 rfl (sf_add (a := v8) (b := (1 : Int)) rfl rfl rfl c_7 ?_)
      refine xm 8 (pI (v8 + (1 : Int))) ?_
      refine XK.nz ?_
      exact ⟨k_1, by omega, ⟨tab [(0, .d (.slice (v0.map (eL eRow)))), (1, .d (.clo fn1 cp1)), (7, pI (v0.length : Int)), (8, pI (v8 + (1 : Int)))], tabH [], 0, []⟩, View.mk 0 [] _ _ _ rfl rfl (by decide) (iC (iC (iC (iC trivial)))) trivial rfl zL rfl, (v8 + (1 : Int)), by omega, jG h, rfl⟩
  · replace h := bGF h hb_2
    refine QW.exit zL (thX (thX (exE (nrm ?_))))
    refine sR ?_
    refine xz 4 (pI (-1)) ?_
    refine QW.ret zL ?_
    obtain rfl := sG h
    exact Ends.one (.inr rfl) rfl (ResIs.tmp rfl) rfl rfl
noncomputable def g_pindex_Index_at (x0 : Index) (r1 : Row) : Option Int :=
    ((g_slices_IndexFunc_LL_api_Row_api_Row (x0.fpages) (fun y0 => g_pindex_Index_at_1 y0 r1)).bind fun (x_1 : Int) =>
    (((bif (decide (x_1 < (0 : Int))) then
    some ((x0.fpages).length : Int)
    else
    some x_1) : Option Int).bind fun (v5 : Int) =>
    gO (inI (v5 - (1 : Int))) (
    some (maxI (v5 - (1 : Int)) (0 : Int)))))
theorem sim_pindex_Index_at (x0 : Index) (r1 : Row) (r : Int) (h : g_pindex_Index_at x0 r1 = some r) : Fun Try.prog 29 [.agg (cIndex x0), .agg (cRow r1)] (.val (.int .i64 r)) := by
  refine Fun.of_bodyQ Try.func29 rfl (by simp [Try.ntmps29]) ?_
  rw [Try.ntmps29, TT.res_29]
  refine QW.view (s' := ⟨tab [(0, .d (.agg (cIndex x0))), (1, .d (.agg (cRow r1)))], tabH [], 0, []⟩) (View.init (by rfl)) zL ?_
  unfold g_pindex_Index_at at h
  refine sR ?_
  refine XK.fz (some 2) rfl rfl (sf_boxF (ds := cIndex x0) rfl rfl rfl rfl rfl ?_)
  refine XK.fz (some 3) rfl rfl (sf_boxF (ds := cRow r1) rfl rfl rfl rfl toDs_map ?_)
  refine xz 4 (pI (0)) ?_
  refine sR ?_
  refine xs 6 rfl (sf_fldC rfl TT.fldA_26_0 (by decide) rfl ?_)
  refine xs 7 rfl (sf_ldC (d := .slice ((x0.fpages).map (eL eRow))) rfl TT.tyA_24 rfl (LdC.one) ?_)
  refine xs 8 rfl (sf_func rfl rfl ?_)
  obtain ⟨x_1, hx_2, h⟩ := bO h
  refine xs 9 rfl (sf_call rfl rfl TT.enters_54 rfl (sim_slices_IndexFunc_LL_api_Row_api_Row (x0.fpages) (fun y0 => g_pindex_Index_at_1 y0 r1) 55 [.cptr (cRow r1)] TT.enters_55 (fun y0 _ h => sim_pindex_Index_at_1 y0 r1 _ h) _ hx_2) ?_)
  refine xz 5 (pI x_1) ?_
  obtain ⟨v5, hq, h⟩ := bO h
  refine QW.seqI (fun s' => s' = ⟨tab [(5, pI v5)], tabH [], 0, []⟩) ?_ ?_
  · replace h := hq; clear hq
    refine sR ?_
    refine xm 10 (pI x_1) ?_
    refine xs 11 rfl (sf_lss (a := x_1) (b := (0 : Int)) rfl rfl rfl ?_)
    refine XK.nz ?_
    refine QW.cond (t := (decide (x_1 < (0 : Int)))) rfl zL (fun hb_3 => ?_) (fun hb_3 => ?_)
    · replace h := bT h hb_3
      refine rG ?_
      refine xs 12 rfl (sf_fldC rfl TT.fldA_26_0 (by decide) rfl ?_)
      refine xs 13 rfl (sf_ldC (d := .slice ((x0.fpages).map (eL eRow))) rfl TT.tyA_24 rfl (LdC.one) ?_)
      refine xs 14 rfl (sf_lenL (en := (eL eRow)) (l := x0.fpages) rfl TT.under_24 rfl ?_)
      refine xz 5 (pI ((x0.fpages).length : Int)) ?_
      obtain rfl := sO h
      exact ⟨⟨tab [(5, pI ((x0.fpages).length : Int))], tabH [], 0, []⟩, View.mk 0 [] _ _ _ rfl rfl (by decide) (iC trivial) trivial rfl zL rfl, rfl⟩
    · replace h := bF h hb_3
      refine QW.skip zL (nrm ?_)
      obtain rfl := sO h
      exact ⟨⟨tab [(5, pI x_1)], tabH [], 0, []⟩, View.mk 0 [] _ _ _ rfl rfl (by decide) (iC trivial) trivial rfl zL rfl, rfl⟩
  · rintro _ rfl
    refine sR ?_
    refine xm 15 (pI v5) ?_
    obtain ⟨c_4, h⟩ := gO_get h
    refine xs 16 rfl (sf_sub (a := v5) (b := (1 : Int)) rfl rfl rfl c_4 ?_)
    refine xs 17 rfl (sf_max (a := (v5 - (1 : Int))) (b := (0 : Int)) rfl rfl rfl ?_)
    refine xz 4 (pI (maxI (v5 - (1 : Int)) (0 : Int))) ?_
    refine QW.ret zL ?_
    obtain rfl := sO h
    exact Ends.one (.inr rfl) rfl (ResIs.tmp rfl) rfl rfl
noncomputable def g_pindex_Index_Put (x0 : Index) (r1 : Row) : Option (Index × Bool) :=
    ((g_page_Check ([r1] : List Row)).bind fun (x_1 : Int) =>
    (bif (!decide (x_1 = (0 : Int))) then
    some (x0, false)
    else
    (bif (decide (((x0.fpages).length : Int) = (0 : Int))) then
    ((g_pindex_Index_with x0 (0) (0) ([([r1] : List Row)] : List (List Row))).bind fun (x_5 : Index) =>
    some (x_5, true))
    else
    ((g_pindex_Index_at x0 r1).bind fun (x_7 : Int) =>
    gO (0 ≤ x_7 ∧ x_7 < ((x0.fpages).length : Int)) (
    ((g_page_Insert (idx (x0.fpages) x_7) r1).bind fun (x_10 : ((List Row) × Bool)) =>
    (bif (!(x_10).2) then
    some (x0, false)
    else
    (bif (decide ((8 : Int) < ((x_10.1).length : Int))) then
    ((g_page_Split (x_10.1)).bind fun (x_14 : ((List Row) × (List Row))) =>
    gO (inI (x_7 + (1 : Int))) (
    ((g_pindex_Index_with x0 x_7 (x_7 + (1 : Int)) ([x_14.1, x_14.2] : List (List Row))).bind fun (x_17 : Index) =>
    some (x_17, true))))
    else
    gO (inI (x_7 + (1 : Int))) (
    ((g_pindex_Index_with x0 x_7 (x_7 + (1 : Int)) ([x_10.1] : List (List Row))).bind fun (x_20 : Index) =>
    some (x_20, true)))))))))))
theorem sim_pindex_Index_Put (x0 : Index) (r1 : Row) (r : (Index × Bool)) (h : g_pindex_Index_Put x0 r1 = some r) : Fun Try.prog 16 [.agg (cIndex x0), .agg (cRow r1)] (.tuple [.agg (cIndex (r.1)), .val (.bool (r.2))]) := by
  refine Fun.of_bodyQ Try.func16 rfl (by simp [Try.ntmps16]) ?_
  rw [Try.ntmps16, TT.res_16]
  refine QW.view (s' := ⟨tab [(0, .d (.agg (cIndex x0))), (1, .d (.agg (cRow r1)))], tabH [], 0, []⟩) (View.init (by rfl)) zL ?_
  unfold g_pindex_Index_Put at h
  refine sR ?_
  refine XK.fz (some 2) rfl rfl (sf_boxF (ds := cIndex x0) rfl rfl rfl rfl rfl ?_)
  refine XK.fz (some 3) rfl rfl (sf_boxF (ds := cRow r1) rfl rfl rfl rfl toDs_map ?_)
  refine xs 4 rfl (sf_alloc (l := [.full (([] : (List (List Row))).map (eL eRow))]) rfl TT.zeroA_26 rfl rfl ?_)
  refine xz 5 (pB false) ?_
  refine QW.seq ?_
  refine sR ?_
  refine xs 11 rfl (sf_ldC (d := .agg (cRow r1)) rfl TT.tyA_44 rfl (⟨by rw [lay_Row.len]; decide, congrArg D.agg (List.take_of_length_le (by rw [lay_Row.len]; decide))⟩) ?_)
  refine xs 12 rfl (sf_row (en := eRow) (l := ([r1] : List Row)) rfl TT.rowA_38 lay_Row (by first | rfl | (simp only [List.map_cons, List.map_nil, eRow_eq]; rfl)) rfl (by decide) (by simp [solids, partsP, evP, ofVal, PV.solid, putS_at, tab, unS, unT, unC, asCond, Value.oneCell']) ?_)
  obtain ⟨x_1, hx_2, h⟩ := bO h
  refine xs 13 rfl (sf_call rfl rfl TT.enters_27 rfl (sim_page_Check ([r1] : List Row) _ hx_2) ?_)
  refine xs 14 rfl (sf_ne (a := x_1) (b := (0 : Int)) rfl rfl rfl ?_)
  refine XK.nz ?_
  refine QW.cond (t := (!decide (x_1 = (0 : Int)))) rfl zL (fun hb_3 => ?_) (fun hb_3 => ?_)
  · replace h := bT h hb_3
    refine sR ?_
    refine xs 15 rfl (sf_ldC (d := .agg (cIndex x0)) rfl TT.tyA_26 rfl (⟨by simp [cIndex], rfl⟩) ?_)
    refine XK.st none rfl rfl (sf_stV (l' := [.d (.slice ((x0.fpages).map (eL eRow)))]) rfl TT.tyA_26 rfl rfl rfl rfl rfl rfl (by simp) rfl ?_)
    refine xz 5 (pB false) ?_
    refine QW.ret zL (thR ?_)
    obtain rfl := sO h
    exact Ends.more (.inr rfl) rfl (ps := [.agg [.d (.slice ((x0.fpages).map (eL eRow)))], pB false]) (And.intro (ResIs.cell rfl rfl TT.tyA_26 ⟨⟨by simp, by simp⟩, rfl⟩) (And.intro (ResIs.tmp rfl) trivial)) rfl rfl
  · replace h := bF h hb_3
    refine QW.skip zL (nrm ?_)
    refine QW.seq ?_
    refine sR ?_
    refine xs 16 rfl (sf_fldC rfl TT.fldA_26_0 (by decide) rfl ?_)
    refine xs 17 rfl (sf_ldC (d := .slice ((x0.fpages).map (eL eRow))) rfl TT.tyA_24 rfl (LdC.one) ?_)
    refine xs 18 rfl (sf_lenL (en := (eL eRow)) (l := x0.fpages) rfl TT.under_24 rfl ?_)
    refine xs 19 rfl (sf_eq (a := ((x0.fpages).length : Int)) (b := (0 : Int)) rfl rfl rfl ?_)
    refine XK.nz ?_
    refine QW.cond (t := (decide (((x0.fpages).length : Int) = (0 : Int)))) rfl zL (fun hb_4 => ?_) (fun hb_4 => ?_)
    · replace h := bT h hb_4
      refine sR ?_
      refine xs 20 rfl (sf_ldC (d := .agg (cIndex x0)) rfl TT.tyA_26 rfl (⟨by simp [cIndex], rfl⟩) ?_)
      refine xs 21 rfl (sf_ldC (d := .agg (cRow r1)) rfl TT.tyA_44 rfl (⟨by rw [lay_Row.len]; decide, congrArg D.agg (List.take_of_length_le (by rw [lay_Row.len]; decide))⟩) ?_)
      refine xs 22 rfl (sf_row (en := eRow) (l := ([r1] : List Row)) rfl TT.rowA_38 lay_Row (by first | rfl | (simp only [List.map_cons, List.map_nil, eRow_eq]; rfl)) rfl (by decide) (by simp [solids, partsP, evP, ofVal, PV.solid, putS_at, tab, unS, unT, unC, asCond, Value.oneCell']) ?_)
      refine xs 23 rfl (sf_row (en := (eL eRow)) (l := ([([r1] : List Row)] : List (List Row))) rfl TT.rowA_24 lay_L rfl rfl (by decide) (by simp [solids, partsP, evP, ofVal, PV.solid, putS_at, tab, unS, unT, unC, asCond, Value.oneCell']) ?_)
      obtain ⟨x_5, hx_6, h⟩ := bO h
      refine xs 24 rfl (sf_call rfl rfl TT.enters_28 rfl (sim_pindex_Index_with x0 (0) (0) ([([r1] : List Row)] : List (List Row)) _ hx_6) ?_)
      refine XK.st none rfl rfl (sf_stV (l' := [.d (.slice ((x_5.fpages).map (eL eRow)))]) rfl TT.tyA_26 rfl rfl rfl rfl rfl rfl (by simp) rfl ?_)
      refine xz 5 (pB true) ?_
      refine QW.ret zL (thR ?_)
      obtain rfl := sO h
      exact Ends.more (.inr rfl) rfl (ps := [.agg [.d (.slice ((x_5.fpages).map (eL eRow)))], pB true]) (And.intro (ResIs.cell rfl rfl TT.tyA_26 ⟨⟨by simp, by simp⟩, rfl⟩) (And.intro (ResIs.tmp rfl) trivial)) rfl rfl
    · replace h := bF h hb_4
      refine QW.skip zL (nrm ?_)
      refine sR ?_
      refine xs 25 rfl (sf_ldC (d := .agg (cIndex x0)) rfl TT.tyA_26 rfl (⟨by simp [cIndex], rfl⟩) ?_)
      refine xs 26 rfl (sf_ldC (d := .agg (cRow r1)) rfl TT.tyA_44 rfl (⟨by rw [lay_Row.len]; decide, congrArg D.agg (List.take_of_length_le (by rw [lay_Row.len]; decide))⟩) ?_)
      obtain ⟨x_7, hx_8, h⟩ := bO h
      refine xs 27 rfl (sf_call rfl rfl TT.enters_29 rfl (sim_pindex_Index_at x0 r1 _ hx_8) ?_)
      refine xz 6 (pI x_7) ?_
      refine QW.seq ?_
      refine QW.region zL (PW.regQ (id := 6) mixedX (M := _) rfl (by kernel_rfl) ?_)
      refine RQ.st (some 29) rfl rfl (sf_fldC rfl TT.fldA_26_0 (by decide) rfl ⟨⟨rfl, rfl⟩, ?_⟩)
      refine RQ.st (some 30) rfl rfl (sf_ldC (d := .slice ((x0.fpages).map (eL eRow))) rfl TT.tyA_24 rfl (LdC.one) ⟨⟨rfl, rfl⟩, ?_⟩)
      refine RQ.st (some 31) rfl rfl (sf_move (v := pI x_7) rfl rfl ⟨⟨rfl, rfl⟩, ?_⟩)
      obtain ⟨c_9, h⟩ := gO_get h
      refine RQ.st (some 32) rfl rfl (sf_idxA (l := x0.fpages) (i := x_7) rfl TT.slcA_24 lay_L rfl rfl c_9 ⟨⟨rfl, rfl⟩, ?_⟩)
      refine RQ.st (some 33) rfl rfl (sf_ldC (d := .slice ((idx (x0.fpages) x_7).map eRow)) rfl TT.tyA_38 rfl (LdC.one) ⟨⟨rfl, rfl⟩, ?_⟩)
      refine RQ.st (some 34) rfl rfl (sf_ldC (d := .agg (cRow r1)) rfl TT.tyA_44 rfl (⟨by rw [lay_Row.len]; decide, congrArg D.agg (List.take_of_length_le (by rw [lay_Row.len]; decide))⟩) ⟨⟨rfl, rfl⟩, ?_⟩)
      obtain ⟨x_10, hx_11, h⟩ := bO h
      refine RQ.st (some 35) rfl rfl (sf_call rfl rfl TT.enters_30 rfl (sim_page_Insert (idx (x0.fpages) x_7) r1 _ hx_11) ⟨⟨rfl, rfl⟩, ?_⟩)
      refine RQ.st (some 28) rfl rfl (sf_move (v := .d (.tuple [.slice ((x_10.1).map eRow), .val (.bool (x_10.2))])) rfl rfl ⟨⟨rfl, rfl⟩, ?_⟩)
      refine RQ.st (some 36) rfl rfl (sf_extract rfl rfl rfl ⟨⟨rfl, rfl⟩, ?_⟩)
      refine RQ.st (some 37) rfl rfl (sf_extract rfl rfl rfl ⟨⟨rfl, rfl⟩, ?_⟩)
      refine RQ.st (some 7) rfl rfl (sf_assign (v := .d (.slice ((x_10.1).map eRow))) rfl rfl ⟨⟨rfl, rfl⟩, ?_⟩)
      refine RQ.st (some 8) rfl rfl (sf_assign (v := pB (x_10.2)) rfl rfl ⟨⟨rfl, rfl⟩, ?_⟩)
      refine RQ.nil (nrm ?_)
      refine QW.seq ?_
      refine QW.block ?_
      refine QW.seq ?_
      refine QW.view (s' := ⟨tab [(2, .d (.cptr (cIndex x0))), (4, .vptr 0 0), (6, pI x_7), (7, .d (.slice ((x_10.1).map eRow))), (8, pB (x_10.2))], tabH [.var [.full (([] : (List (List Row))).map (eL eRow))]], 1, []⟩) (View.mk 1 [0] _ _ _ rfl rfl (by decide) (iC (iC (iC (iC (iC trivial))))) (And.intro rfl trivial) rfl zL rfl) zL ?_
      refine rG ?_
      refine xm 39 (pB (x_10.2)) ?_
      refine xs 40 rfl (sf_not rfl rfl ?_)
      refine xz 38 (pB (!(x_10).2)) ?_
      refine QW.cond (t := (!(x_10).2)) rfl zL (fun hb_12 => ?_) (fun hb_12 => ?_)
      · replace h := bT h hb_12
        refine sR ?_
        refine xs 41 rfl (sf_ldC (d := .agg (cIndex x0)) rfl TT.tyA_26 rfl (⟨by simp [cIndex], rfl⟩) ?_)
        refine XK.st none rfl rfl (sf_stV (l' := [.d (.slice ((x0.fpages).map (eL eRow)))]) rfl TT.tyA_26 rfl rfl rfl rfl rfl rfl (by simp) rfl ?_)
        refine xz 5 (pB false) ?_
        refine QW.ret zL (blR (thR ?_))
        obtain rfl := sO h
        exact Ends.more (.inr rfl) rfl (ps := [.agg [.d (.slice ((x0.fpages).map (eL eRow)))], pB false]) (And.intro (ResIs.cell rfl rfl TT.tyA_26 ⟨⟨by simp, by simp⟩, rfl⟩) (And.intro (ResIs.tmp rfl) trivial)) rfl rfl
      · replace h := bF h hb_12
        refine sR ?_
        refine xm 43 (.d (.slice ((x_10.1).map eRow))) ?_
        refine xs 44 rfl (sf_lenL (en := eRow) (l := x_10.1) rfl TT.under_38 rfl ?_)
        refine xs 45 rfl (sf_gtr (a := ((x_10.1).length : Int)) (b := (8 : Int)) rfl rfl rfl ?_)
        refine xz 42 (pB (decide ((8 : Int) < ((x_10.1).length : Int)))) ?_
        refine QW.cond (t := (decide ((8 : Int) < ((x_10.1).length : Int)))) rfl zL (fun hb_13 => ?_) (fun hb_13 => ?_)
        · replace h := bT h hb_13
          refine sR ?_
          refine xm 47 (.d (.slice ((x_10.1).map eRow))) ?_
          obtain ⟨x_14, hx_15, h⟩ := bO h
          refine xs 48 rfl (sf_call rfl rfl TT.enters_31 rfl (sim_page_Split (x_10.1) _ hx_15) ?_)
          refine xm 46 (.d (.tuple [.slice ((x_14.1).map eRow), .slice ((x_14.2).map eRow)])) ?_
          refine xs 49 rfl (sf_extract rfl rfl rfl ?_)
          refine xs 50 rfl (sf_extract rfl rfl rfl ?_)
          refine xa 9 (.d (.slice ((x_14.1).map eRow))) ?_
          refine xz 10 (.d (.slice ((x_14.2).map eRow))) ?_
          refine sR ?_
          refine xs 51 rfl (sf_ldC (d := .agg (cIndex x0)) rfl TT.tyA_26 rfl (⟨by simp [cIndex], rfl⟩) ?_)
          refine xm 52 (pI x_7) ?_
          refine xm 53 (pI x_7) ?_
          obtain ⟨c_16, h⟩ := gO_get h
          refine xs 54 rfl (sf_add (a := x_7) (b := (1 : Int)) rfl rfl rfl c_16 ?_)
          refine xm 55 (.d (.slice ((x_14.1).map eRow))) ?_
          refine xm 56 (.d (.slice ((x_14.2).map eRow))) ?_
          refine xs 57 rfl (sf_row (en := (eL eRow)) (l := ([x_14.1, x_14.2] : List (List Row))) rfl TT.rowA_24 lay_L rfl rfl (by decide) (by simp [solids, partsP, evP, ofVal, PV.solid, putS_at, tab, unS, unT, unC, asCond, Value.oneCell']) ?_)
          obtain ⟨x_17, hx_18, h⟩ := bO h
          refine xs 58 rfl (sf_call rfl rfl TT.enters_28 rfl (sim_pindex_Index_with x0 x_7 (x_7 + (1 : Int)) ([x_14.1, x_14.2] : List (List Row)) _ hx_18) ?_)
          refine XK.st none rfl rfl (sf_stV (l' := [.d (.slice ((x_17.fpages).map (eL eRow)))]) rfl TT.tyA_26 rfl rfl rfl rfl rfl rfl (by simp) rfl ?_)
          refine xz 5 (pB true) ?_
          refine QW.ret zL (blR (thR ?_))
          obtain rfl := sO h
          exact Ends.more (.inr rfl) rfl (ps := [.agg [.d (.slice ((x_17.fpages).map (eL eRow)))], pB true]) (And.intro (ResIs.cell rfl rfl TT.tyA_26 ⟨⟨by simp, by simp⟩, rfl⟩) (And.intro (ResIs.tmp rfl) trivial)) rfl rfl
        · replace h := bF h hb_13
          refine QW.skip zL (blN (nrm ?_))
          refine sR ?_
          refine xs 59 rfl (sf_ldC (d := .agg (cIndex x0)) rfl TT.tyA_26 rfl (⟨by simp [cIndex], rfl⟩) ?_)
          refine xm 60 (pI x_7) ?_
          refine xm 61 (pI x_7) ?_
          obtain ⟨c_19, h⟩ := gO_get h
          refine xs 62 rfl (sf_add (a := x_7) (b := (1 : Int)) rfl rfl rfl c_19 ?_)
          refine xm 63 (.d (.slice ((x_10.1).map eRow))) ?_
          refine xs 64 rfl (sf_row (en := (eL eRow)) (l := ([x_10.1] : List (List Row))) rfl TT.rowA_24 lay_L rfl rfl (by decide) (by simp [solids, partsP, evP, ofVal, PV.solid, putS_at, tab, unS, unT, unC, asCond, Value.oneCell']) ?_)
          obtain ⟨x_20, hx_21, h⟩ := bO h
          refine xs 65 rfl (sf_call rfl rfl TT.enters_28 rfl (sim_pindex_Index_with x0 x_7 (x_7 + (1 : Int)) ([x_10.1] : List (List Row)) _ hx_21) ?_)
          refine XK.st none rfl rfl (sf_stV (l' := [.d (.slice ((x_20.fpages).map (eL eRow)))]) rfl TT.tyA_26 rfl rfl rfl rfl rfl rfl (by simp) rfl ?_)
          refine xz 5 (pB true) ?_
          refine QW.ret zL ?_
          obtain rfl := sO h
          exact Ends.more (.inr rfl) rfl (ps := [.agg [.d (.slice ((x_20.fpages).map (eL eRow)))], pB true]) (And.intro (ResIs.cell rfl rfl TT.tyA_26 ⟨⟨by simp, by simp⟩, rfl⟩) (And.intro (ResIs.tmp rfl) trivial)) rfl rfl
noncomputable def g_pindex_Index_find (x0 : Index) (s1 : (Arr 32 UInt8)) (epoch2 : Int) : Option (Int × Int × Bool) :=
    (bif (decide (((x0.fpages).length : Int) = (0 : Int))) then
    some (0, 0, false)
    else
    ((g_pindex_Index_at x0 (⟨s1, epoch2, ([] : List UInt8)⟩ : Row)).bind fun (x_2 : Int) =>
    gO (0 ≤ x_2 ∧ x_2 < ((x0.fpages).length : Int)) (
    ((g_page_Find (idx (x0.fpages) x_2) s1 epoch2).bind fun (x_5 : (Int × Bool)) =>
    some (x_2, x_5.1, x_5.2)))))
theorem sim_pindex_Index_find (x0 : Index) (s1 : (Arr 32 UInt8)) (epoch2 : Int) (r : (Int × Int × Bool)) (h : g_pindex_Index_find x0 s1 epoch2 = some r) : Fun Try.prog 43 [.agg (cIndex x0), .agg (s1.1.map byteD), .val (.int .i64 epoch2)] (.tuple [.val (.int .i64 (r.1)), .val (.int .i64 (r.2.1)), .val (.bool (r.2.2))]) := by
  refine Fun.of_bodyQ Try.func43 rfl (by simp [Try.ntmps43]) ?_
  rw [Try.ntmps43, TT.res_43]
  refine QW.view (s' := ⟨tab [(0, .d (.agg (cIndex x0))), (1, .d (.agg (s1.1.map byteD))), (2, pI epoch2)], tabH [], 0, []⟩) (View.init (by rfl)) zL ?_
  unfold g_pindex_Index_find at h
  refine sR ?_
  refine XK.fz (some 3) rfl rfl (sf_boxF (ds := cIndex x0) rfl rfl rfl rfl rfl ?_)
  refine XK.fz (some 4) rfl rfl (sf_boxF (ds := s1.1.map byteD) rfl rfl rfl rfl toDs_map ?_)
  refine xa 6 (pI (0)) ?_
  refine xa 7 (pI (0)) ?_
  refine xz 8 (pB false) ?_
  refine QW.seq ?_
  refine sR ?_
  refine xs 12 rfl (sf_fldC rfl TT.fldA_26_0 (by decide) rfl ?_)
  refine xs 13 rfl (sf_ldC (d := .slice ((x0.fpages).map (eL eRow))) rfl TT.tyA_24 rfl (LdC.one) ?_)
  refine xs 14 rfl (sf_lenL (en := (eL eRow)) (l := x0.fpages) rfl TT.under_24 rfl ?_)
  refine xs 15 rfl (sf_eq (a := ((x0.fpages).length : Int)) (b := (0 : Int)) rfl rfl rfl ?_)
  refine XK.nz ?_
  refine QW.cond (t := (decide (((x0.fpages).length : Int) = (0 : Int)))) rfl zL (fun hb_1 => ?_) (fun hb_1 => ?_)
  · replace h := bT h hb_1
    refine sR ?_
    refine xa 6 (pI (0)) ?_
    refine xa 7 (pI (0)) ?_
    refine xz 8 (pB false) ?_
    refine QW.ret zL (thR ?_)
    obtain rfl := sO h
    exact Ends.more (.inr rfl) rfl (ps := [pI (0), pI (0), pB false]) (And.intro (ResIs.tmp rfl) (And.intro (ResIs.tmp rfl) (And.intro (ResIs.tmp rfl) trivial))) rfl rfl
  · replace h := bF h hb_1
    refine QW.skip zL (nrm ?_)
    refine sR ?_
    refine xs 16 rfl (sf_ldC (d := .agg (cIndex x0)) rfl TT.tyA_26 rfl (⟨by simp [cIndex], rfl⟩) ?_)
    refine xs 17 rfl (sf_ldC (d := .agg (s1.1.map byteD)) rfl TT.tyA_41 rfl (ldc_all (by rw [List.length_map, s1.2])) ?_)
    refine xm 18 (pI epoch2) ?_
    refine XK.as (some 19) rfl rfl (sf_bld (v := .agg ((cRow (⟨s1, epoch2, ([] : List UInt8)⟩ : Row)).map .d)) rfl TT.bldA_44 (bld_Row_0_1 s1 epoch2) ⟨.d (.agg (cRow (⟨s1, epoch2, ([] : List UInt8)⟩ : Row))), imp_arr, ?_⟩)
    obtain ⟨x_2, hx_3, h⟩ := bO h
    refine xs 20 rfl (sf_call rfl rfl TT.enters_29 rfl (sim_pindex_Index_at x0 (⟨s1, epoch2, ([] : List UInt8)⟩ : Row) _ hx_3) ?_)
    refine xz 9 (pI x_2) ?_
    refine QW.seq ?_
    refine QW.region zL (PW.regQ (id := 4) mixedX (M := _) rfl (by kernel_rfl) ?_)
    refine RQ.st (some 22) rfl rfl (sf_fldC rfl TT.fldA_26_0 (by decide) rfl ⟨⟨rfl, rfl⟩, ?_⟩)
    refine RQ.st (some 23) rfl rfl (sf_ldC (d := .slice ((x0.fpages).map (eL eRow))) rfl TT.tyA_24 rfl (LdC.one) ⟨⟨rfl, rfl⟩, ?_⟩)
    refine RQ.st (some 24) rfl rfl (sf_move (v := pI x_2) rfl rfl ⟨⟨rfl, rfl⟩, ?_⟩)
    obtain ⟨c_4, h⟩ := gO_get h
    refine RQ.st (some 25) rfl rfl (sf_idxA (l := x0.fpages) (i := x_2) rfl TT.slcA_24 lay_L rfl rfl c_4 ⟨⟨rfl, rfl⟩, ?_⟩)
    refine RQ.st (some 26) rfl rfl (sf_ldC (d := .slice ((idx (x0.fpages) x_2).map eRow)) rfl TT.tyA_38 rfl (LdC.one) ⟨⟨rfl, rfl⟩, ?_⟩)
    refine RQ.st (some 27) rfl rfl (sf_ldC (d := .agg (s1.1.map byteD)) rfl TT.tyA_41 rfl (ldc_all (by rw [List.length_map, s1.2])) ⟨⟨rfl, rfl⟩, ?_⟩)
    refine RQ.st (some 28) rfl rfl (sf_move (v := pI epoch2) rfl rfl ⟨⟨rfl, rfl⟩, ?_⟩)
    obtain ⟨x_5, hx_6, h⟩ := bO h
    refine RQ.st (some 29) rfl rfl (sf_call rfl rfl TT.enters_56 rfl (sim_page_Find (idx (x0.fpages) x_2) s1 epoch2 _ hx_6) ⟨⟨rfl, rfl⟩, ?_⟩)
    refine RQ.st (some 21) rfl rfl (sf_move (v := .d (.tuple [.val (.int .i64 (x_5.1)), .val (.bool (x_5.2))])) rfl rfl ⟨⟨rfl, rfl⟩, ?_⟩)
    refine RQ.st (some 30) rfl rfl (sf_extract rfl rfl rfl ⟨⟨rfl, rfl⟩, ?_⟩)
    refine RQ.st (some 31) rfl rfl (sf_extract rfl rfl rfl ⟨⟨rfl, rfl⟩, ?_⟩)
    refine RQ.st (some 10) rfl rfl (sf_assign (v := pI (x_5.1)) rfl rfl ⟨⟨rfl, rfl⟩, ?_⟩)
    refine RQ.st (some 11) rfl rfl (sf_assign (v := pB (x_5.2)) rfl rfl ⟨⟨rfl, rfl⟩, ?_⟩)
    refine RQ.nil (nrm ?_)
    refine QW.seq ?_
    refine QW.view (s' := ⟨tab [(9, pI x_2), (10, pI (x_5.1)), (11, pB (x_5.2))], tabH [], 0, []⟩) (View.mk 0 [] _ _ _ rfl rfl (by decide) (iC (iC (iC trivial))) trivial rfl zL rfl) zL ?_
    refine rG ?_
    refine xm 32 (pI x_2) ?_
    refine xm 33 (pI (x_5.1)) ?_
    refine xm 34 (pB (x_5.2)) ?_
    refine xa 6 (pI x_2) ?_
    refine xa 7 (pI (x_5.1)) ?_
    refine xz 8 (pB (x_5.2)) ?_
    refine QW.ret zL ?_
    obtain rfl := sO h
    exact Ends.more (.inr rfl) rfl (ps := [pI x_2, pI (x_5.1), pB (x_5.2)]) (And.intro (ResIs.tmp rfl) (And.intro (ResIs.tmp rfl) (And.intro (ResIs.tmp rfl) trivial))) rfl rfl
inductive C_pindex_Index_joined where
  | S
  | L1 (v12 : Int)
noncomputable def step_pindex_Index_joined (x0 : Index) (i1 : Int) : C_pindex_Index_joined → Option (C_pindex_Index_joined ⊕ Index)
  | .S =>
    gO (inI (i1 - (1 : Int))) (
    some (.inl (.L1 (0))))
  | .L1 v12 =>
    (bif (decide (v12 < (([i1, (i1 - (1 : Int))] : List Int).length : Int))) then
    gO (0 ≤ v12 ∧ v12 < (([i1, (i1 - (1 : Int))] : List Int).length : Int)) (
    gO ((decide ((0 : Int) ≤ (idx ([i1, (i1 - (1 : Int))] : List Int) v12))) = true → inI ((idx ([i1, (i1 - (1 : Int))] : List Int) v12) + (1 : Int))) (
    gO ((((decide ((0 : Int) ≤ (idx ([i1, (i1 - (1 : Int))] : List Int) v12))) && (decide (((idx ([i1, (i1 - (1 : Int))] : List Int) v12) + (1 : Int)) < ((x0.fpages).length : Int)))) == true) = true → 0 ≤ (idx ([i1, (i1 - (1 : Int))] : List Int) v12) ∧ (idx ([i1, (i1 - (1 : Int))] : List Int) v12) < ((x0.fpages).length : Int)) (
    gO ((((decide ((0 : Int) ≤ (idx ([i1, (i1 - (1 : Int))] : List Int) v12))) && (decide (((idx ([i1, (i1 - (1 : Int))] : List Int) v12) + (1 : Int)) < ((x0.fpages).length : Int)))) == true) = true → inI ((idx ([i1, (i1 - (1 : Int))] : List Int) v12) + (1 : Int))) (
    gO ((((decide ((0 : Int) ≤ (idx ([i1, (i1 - (1 : Int))] : List Int) v12))) && (decide (((idx ([i1, (i1 - (1 : Int))] : List Int) v12) + (1 : Int)) < ((x0.fpages).length : Int)))) == true) = true → 0 ≤ ((idx ([i1, (i1 - (1 : Int))] : List Int) v12) + (1 : Int)) ∧ ((idx ([i1, (i1 - (1 : Int))] : List Int) v12) + (1 : Int)) < ((x0.fpages).length : Int)) (
    gO ((((decide ((0 : Int) ≤ (idx ([i1, (i1 - (1 : Int))] : List Int) v12))) && (decide (((idx ([i1, (i1 - (1 : Int))] : List Int) v12) + (1 : Int)) < ((x0.fpages).length : Int)))) == true) = true → inI (((idx (x0.fpages) (idx ([i1, (i1 - (1 : Int))] : List Int) v12)).length : Int) + ((idx (x0.fpages) ((idx ([i1, (i1 - (1 : Int))] : List Int) v12) + (1 : Int))).length : Int))) (
    (bif (((decide ((0 : Int) ≤ (idx ([i1, (i1 - (1 : Int))] : List Int) v12))) && (decide (((idx ([i1, (i1 - (1 : Int))] : List Int) v12) + (1 : Int)) < ((x0.fpages).length : Int)))) && (decide ((((idx (x0.fpages) (idx ([i1, (i1 - (1 : Int))] : List Int) v12)).length : Int) + ((idx (x0.fpages) ((idx ([i1, (i1 - (1 : Int))] : List Int) v12) + (1 : Int))).length : Int)) ≤ (8 : Int)))) then
    gO (inI ((idx ([i1, (i1 - (1 : Int))] : List Int) v12) + (2 : Int))) (
    gO (0 ≤ (idx ([i1, (i1 - (1 : Int))] : List Int) v12) ∧ (idx ([i1, (i1 - (1 : Int))] : List Int) v12) < ((x0.fpages).length : Int)) (
    gO (inI ((idx ([i1, (i1 - (1 : Int))] : List Int) v12) + (1 : Int))) (
    gO (0 ≤ ((idx ([i1, (i1 - (1 : Int))] : List Int) v12) + (1 : Int)) ∧ ((idx ([i1, (i1 - (1 : Int))] : List Int) v12) + (1 : Int)) < ((x0.fpages).length : Int)) (
    ((g_slices_Concat_api_Row_api_Row ([(idx (x0.fpages) (idx ([i1, (i1 - (1 : Int))] : List Int) v12)), (idx (x0.fpages) ((idx ([i1, (i1 - (1 : Int))] : List Int) v12) + (1 : Int)))] : List (List Row))).bind fun (x_15 : (List Row)) =>
    ((g_pindex_Index_with x0 (idx ([i1, (i1 - (1 : Int))] : List Int) v12) ((idx ([i1, (i1 - (1 : Int))] : List Int) v12) + (2 : Int)) ([x_15] : List (List Row))).bind fun (x_17 : Index) =>
    some (.inr x_17)))))))
    else
    gO (inI (v12 + (1 : Int))) (
    some (.inl (.L1 (v12 + (1 : Int))))))))))))
    else
    some (.inr x0))
noncomputable def g_pindex_Index_joined (x0 : Index) (i1 : Int) : Option Index := theC (step_pindex_Index_joined x0 i1) .S
theorem sim_pindex_Index_joined (x0 : Index) (i1 : Int) (r : Index) (h : g_pindex_Index_joined x0 i1 = some r) : Fun Try.prog 45 [.agg (cIndex x0), .val (.int .i64 i1)] (.agg (cIndex r)) := by
  refine Fun.of_bodyQ Try.func45 rfl (by simp [Try.ntmps45]) ?_
  rw [Try.ntmps45, TT.res_45]
  refine QW.view (s' := ⟨tab [(0, .d (.agg (cIndex x0))), (1, pI i1)], tabH [], 0, []⟩) (View.init (by rfl)) zL ?_
  replace h := theC_get h
  obtain ⟨_, h⟩ := h
  obtain ⟨k_0, rfl, h9⟩ := run_succ h; replace h := h9; clear h9; rw [step_pindex_Index_joined] at h
  refine sR ?_
  refine XK.fz (some 2) rfl rfl (sf_boxF (ds := cIndex x0) rfl rfl rfl rfl rfl ?_)
  refine xs 4 rfl (sf_alloc (l := [.full (([] : (List (List Row))).map (eL eRow))]) rfl TT.zeroA_26 rfl rfl ?_)
  refine XK.nz ?_
  refine QW.seq ?_
  refine sR ?_
  refine xm 7 (pI i1) ?_
  refine xm 8 (pI i1) ?_
  obtain ⟨c_1, h⟩ := gG h
  refine xs 9 rfl (sf_sub (a := i1) (b := (1 : Int)) rfl rfl rfl c_1 ?_)
  refine xs 10 rfl (sf_row (en := eI) (l := ([i1, (i1 - (1 : Int))] : List Int)) rfl TT.rowA_52 lay_I rfl rfl (by decide) (by simp [solids, partsP, evP, ofVal, PV.solid, putS_at, tab, unS, unT, unC, asCond, Value.oneCell']) ?_)
  refine xs 11 rfl (sf_lenL (en := eI) (l := ([i1, (i1 - (1 : Int))] : List Int)) rfl TT.under_52 rfl ?_)
  refine xm 12 (pI (0)) ?_
  refine XK.nz ?_
  refine QW.block ?_
  refine QW.loop (fun k σ => ∃ v12 : Int, k ≤ k_0 ∧ run (step_pindex_Index_joined x0 i1) k (.L1 v12) = some r ∧ σ = ⟨tab [(2, .d (.cptr (cIndex x0))), (4, .vptr 0 0), (10, .full (([i1, (i1 - (1 : Int))] : List Int).map eI)), (11, pI (([i1, (i1 - (1 : Int))] : List Int).length : Int)), (12, pI v12)], tabH [.var [.full (([] : (List (List Row))).map (eL eRow))]], 1, []⟩) k_0 zL ⟨⟨tab [(2, .d (.cptr (cIndex x0))), (4, .vptr 0 0), (10, .full (([i1, (i1 - (1 : Int))] : List Int).map eI)), (11, pI (([i1, (i1 - (1 : Int))] : List Int).length : Int)), (12, pI (0))], tabH [.var [.full (([] : (List (List Row))).map (eL eRow))]], 1, []⟩, View.mk 1 [0] _ _ _ rfl rfl (by decide) (iC (iC (iC (iC (iC trivial))))) (And.intro rfl trivial) rfl zL rfl, 0, Nat.le_refl _, jG h, rfl⟩ ?_
  rintro k_2s _ ⟨v12, k_2h, h, rfl⟩
  obtain ⟨k_2, rfl, h9⟩ := run_succ h; replace h := h9; clear h9; rw [step_pindex_Index_joined] at h
  refine sR ?_
  refine xs 13 rfl (sf_lss (a := v12) (b := (([i1, (i1 - (1 : Int))] : List Int).length : Int)) rfl rfl rfl ?_)
  refine XK.nz ?_
  refine QW.seq ?_
  refine QW.cond (t := (decide (v12 < (([i1, (i1 - (1 : Int))] : List Int).length : Int)))) rfl zL (fun hb_3 => ?_) (fun hb_3 => ?_)
  · replace h := bGT h hb_3
    refine QW.skip zL (nrm ?_)
    refine QW.seq ?_
    refine QW.block ?_
    refine sR ?_
    obtain ⟨c_4, h⟩ := gG h
    refine xs 14 rfl (sf_idxA (l := ([i1, (i1 - (1 : Int))] : List Int)) (i := v12) rfl TT.slcA_52 lay_I rfl rfl c_4 ?_)
    refine xs 15 rfl (sf_ldC (d := .val (.int .i64 (idx ([i1, (i1 - (1 : Int))] : List Int) v12))) rfl TT.tyA_3 rfl (LdC.one) ?_)
    refine xz 6 (pI (idx ([i1, (i1 - (1 : Int))] : List Int) v12)) ?_
    refine QW.seq ?_
    refine QW.region zL (PW.regQ (id := 4) mixedX (M := _) rfl (by kernel_rfl) ?_)
    refine RQ.st (some 16) rfl rfl (sf_move (v := pI (idx ([i1, (i1 - (1 : Int))] : List Int) v12)) rfl rfl ⟨⟨rfl, rfl⟩, ?_⟩)
    refine RQ.st (some 17) rfl rfl (sf_geq (a := (idx ([i1, (i1 - (1 : Int))] : List Int) v12)) (b := (0 : Int)) rfl rfl rfl ⟨⟨rfl, rfl⟩, ?_⟩)
    refine RQ.st (some 18) rfl rfl (sf_move (v := pB (decide ((0 : Int) ≤ (idx ([i1, (i1 - (1 : Int))] : List Int) v12)))) rfl rfl ⟨⟨rfl, rfl⟩, ?_⟩)
    refine RQ.gd (v := pI (idx ([i1, (i1 - (1 : Int))] : List Int) v12)) (T := []) (some 19) rfl rfl (by repeat (first | exact trivial | refine ⟨fun q => by first | rfl | exact q | exact cda q | exact cdb q, ?_⟩)) (fun hg => sf_move (v := pI (idx ([i1, (i1 - (1 : Int))] : List Int) v12)) rfl rfl g3) nm0 ?_
    obtain ⟨c_5, h⟩ := gG h
    refine RQ.gd (v := pI ((idx ([i1, (i1 - (1 : Int))] : List Int) v12) + (1 : Int))) (T := []) (some 20) rfl rfl (by repeat (first | exact trivial | refine ⟨fun q => by first | rfl | exact q | exact cda q | exact cdb q, ?_⟩)) (fun hg => sf_add (a := (idx ([i1, (i1 - (1 : Int))] : List Int) v12)) (b := (1 : Int)) rfl rfl rfl (c_5 (eqB hg)) g3) nm0 ?_
    refine RQ.gd (v := .d (.cptr ((cIndex x0).drop 0))) (T := []) (some 21) rfl rfl (by repeat (first | exact trivial | refine ⟨fun q => by first | rfl | exact q | exact cda q | exact cdb q, ?_⟩)) (fun hg => sf_fldC rfl TT.fldA_26_0 (by decide) rfl g3) nm0 ?_
    refine RQ.gd (v := .d (.slice ((x0.fpages).map (eL eRow)))) (T := []) (some 22) rfl rfl (by repeat (first | exact trivial | refine ⟨fun q => by first | rfl | exact q | exact cda q | exact cdb q, ?_⟩)) (fun hg => sf_ldC (d := .slice ((x0.fpages).map (eL eRow))) rfl TT.tyA_24 rfl (LdC.one) g3) nm0 ?_
    refine RQ.gd (v := pI ((x0.fpages).length : Int)) (T := []) (some 23) rfl rfl (by repeat (first | exact trivial | refine ⟨fun q => by first | rfl | exact q | exact cda q | exact cdb q, ?_⟩)) (fun hg => sf_lenL (en := (eL eRow)) (l := x0.fpages) rfl TT.under_24 rfl g3) nm0 ?_
    refine RQ.gd (v := pB (decide (((idx ([i1, (i1 - (1 : Int))] : List Int) v12) + (1 : Int)) < ((x0.fpages).length : Int)))) (T := []) (some 24) rfl rfl (by repeat (first | exact trivial | refine ⟨fun q => by first | rfl | exact q | exact cda q | exact cdb q, ?_⟩)) (fun hg => sf_lss (a := ((idx ([i1, (i1 - (1 : Int))] : List Int) v12) + (1 : Int))) (b := ((x0.fpages).length : Int)) rfl rfl rfl g3) nm0 ?_
    refine RQ.st (some 25) rfl rfl (sf_pickA rfl rfl rfl rfl (fun hb => by rw [hb]; rfl) (fun _ => rfl) ⟨⟨rfl, rfl⟩, ?_⟩)
    refine RQ.st (some 26) rfl rfl (sf_move (v := pB ((decide ((0 : Int) ≤ (idx ([i1, (i1 - (1 : Int))] : List Int) v12))) && (decide (((idx ([i1, (i1 - (1 : Int))] : List Int) v12) + (1 : Int)) < ((x0.fpages).length : Int))))) rfl rfl ⟨⟨rfl, rfl⟩, ?_⟩)
    refine RQ.gd (v := .d (.cptr ((cIndex x0).drop 0))) (T := []) (some 27) rfl rfl (by repeat (first | exact trivial | refine ⟨fun q => by first | rfl | exact q | exact cda q | exact cdb q, ?_⟩)) (fun hg => sf_fldC rfl TT.fldA_26_0 (by decide) rfl g3) nm0 ?_
    refine RQ.gd (v := .d (.slice ((x0.fpages).map (eL eRow)))) (T := []) (some 28) rfl rfl (by repeat (first | exact trivial | refine ⟨fun q => by first | rfl | exact q | exact cda q | exact cdb q, ?_⟩)) (fun hg => sf_ldC (d := .slice ((x0.fpages).map (eL eRow))) rfl TT.tyA_24 rfl (LdC.one) g3) nm0 ?_
    refine RQ.gd (v := pI (idx ([i1, (i1 - (1 : Int))] : List Int) v12)) (T := []) (some 29) rfl rfl (by repeat (first | exact trivial | refine ⟨fun q => by first | rfl | exact q | exact cda q | exact cdb q, ?_⟩)) (fun hg => sf_move (v := pI (idx ([i1, (i1 - (1 : Int))] : List Int) v12)) rfl rfl g3) nm0 ?_
    obtain ⟨c_6, h⟩ := gG h
    refine RQ.gd (v := .d (.cptr ([.slice ((idx (x0.fpages) (idx ([i1, (i1 - (1 : Int))] : List Int) v12)).map eRow)]))) (T := []) (some 30) rfl rfl (by repeat (first | exact trivial | refine ⟨fun q => by first | rfl | exact q | exact cda q | exact cdb q, ?_⟩)) (fun hg => sf_idxA (l := x0.fpages) (i := (idx ([i1, (i1 - (1 : Int))] : List Int) v12)) rfl TT.slcA_24 lay_L rfl rfl (c_6 hg) g3) nm0 ?_
    refine RQ.gd (v := .d (.slice ((idx (x0.fpages) (idx ([i1, (i1 - (1 : Int))] : List Int) v12)).map eRow))) (T := []) (some 31) rfl rfl (by repeat (first | exact trivial | refine ⟨fun q => by first | rfl | exact q | exact cda q | exact cdb q, ?_⟩)) (fun hg => sf_ldC (d := .slice ((idx (x0.fpages) (idx ([i1, (i1 - (1 : Int))] : List Int) v12)).map eRow)) rfl TT.tyA_38 rfl (LdC.one) g3) nm0 ?_
    refine RQ.gd (v := pI ((idx (x0.fpages) (idx ([i1, (i1 - (1 : Int))] : List Int) v12)).length : Int)) (T := []) (some 32) rfl rfl (by repeat (first | exact trivial | refine ⟨fun q => by first | rfl | exact q | exact cda q | exact cdb q, ?_⟩)) (fun hg => sf_lenL (en := eRow) (l := (idx (x0.fpages) (idx ([i1, (i1 - (1 : Int))] : List Int) v12))) rfl TT.under_38 rfl g3) nm0 ?_
    refine RQ.gd (v := .d (.cptr ((cIndex x0).drop 0))) (T := []) (some 33) rfl rfl (by repeat (first | exact trivial | refine ⟨fun q => by first | rfl | exact q | exact cda q | exact cdb q, ?_⟩)) (fun hg => sf_fldC rfl TT.fldA_26_0 (by decide) rfl g3) nm0 ?_
    refine RQ.gd (v := .d (.slice ((x0.fpages).map (eL eRow)))) (T := []) (some 34) rfl rfl (by repeat (first | exact trivial | refine ⟨fun q => by first | rfl | exact q | exact cda q | exact cdb q, ?_⟩)) (fun hg => sf_ldC (d := .slice ((x0.fpages).map (eL eRow))) rfl TT.tyA_24 rfl (LdC.one) g3) nm0 ?_
    refine RQ.gd (v := pI (idx ([i1, (i1 - (1 : Int))] : List Int) v12)) (T := []) (some 35) rfl rfl (by repeat (first | exact trivial | refine ⟨fun q => by first | rfl | exact q | exact cda q | exact cdb q, ?_⟩)) (fun hg => sf_move (v := pI (idx ([i1, (i1 - (1 : Int))] : List Int) v12)) rfl rfl g3) nm0 ?_
    obtain ⟨c_7, h⟩ := gG h
    refine RQ.gd (v := pI ((idx ([i1, (i1 - (1 : Int))] : List Int) v12) + (1 : Int))) (T := []) (some 36) rfl rfl (by repeat (first | exact trivial | refine ⟨fun q => by first | rfl | exact q | exact cda q | exact cdb q, ?_⟩)) (fun hg => sf_add (a := (idx ([i1, (i1 - (1 : Int))] : List Int) v12)) (b := (1 : Int)) rfl rfl rfl (c_7 hg) g3) nm0 ?_
    obtain ⟨c_8, h⟩ := gG h
    refine RQ.gd (v := .d (.cptr ([.slice ((idx (x0.fpages) ((idx ([i1, (i1 - (1 : Int))] : List Int) v12) + (1 : Int))).map eRow)]))) (T := []) (some 37) rfl rfl (by repeat (first | exact trivial | refine ⟨fun q => by first | rfl | exact q | exact cda q | exact cdb q, ?_⟩)) (fun hg => sf_idxA (l := x0.fpages) (i := ((idx ([i1, (i1 - (1 : Int))] : List Int) v12) + (1 : Int))) rfl TT.slcA_24 lay_L rfl rfl (c_8 hg) g3) nm0 ?_
    refine RQ.gd (v := .d (.slice ((idx (x0.fpages) ((idx ([i1, (i1 - (1 : Int))] : List Int) v12) + (1 : Int))).map eRow))) (T := []) (some 38) rfl rfl (by repeat (first | exact trivial | refine ⟨fun q => by first | rfl | exact q | exact cda q | exact cdb q, ?_⟩)) (fun hg => sf_ldC (d := .slice ((idx (x0.fpages) ((idx ([i1, (i1 - (1 : Int))] : List Int) v12) + (1 : Int))).map eRow)) rfl TT.tyA_38 rfl (LdC.one) g3) nm0 ?_
    refine RQ.gd (v := pI ((idx (x0.fpages) ((idx ([i1, (i1 - (1 : Int))] : List Int) v12) + (1 : Int))).length : Int)) (T := []) (some 39) rfl rfl (by repeat (first | exact trivial | refine ⟨fun q => by first | rfl | exact q | exact cda q | exact cdb q, ?_⟩)) (fun hg => sf_lenL (en := eRow) (l := (idx (x0.fpages) ((idx ([i1, (i1 - (1 : Int))] : List Int) v12) + (1 : Int)))) rfl TT.under_38 rfl g3) nm0 ?_
    obtain ⟨c_9, h⟩ := gG h
    refine RQ.gd (v := pI (((idx (x0.fpages) (idx ([i1, (i1 - (1 : Int))] : List Int) v12)).length : Int) + ((idx (x0.fpages) ((idx ([i1, (i1 - (1 : Int))] : List Int) v12) + (1 : Int))).length : Int))) (T := []) (some 40) rfl rfl (by repeat (first | exact trivial | refine ⟨fun q => by first | rfl | exact q | exact cda q | exact cdb q, ?_⟩)) (fun hg => sf_add (a := ((idx (x0.fpages) (idx ([i1, (i1 - (1 : Int))] : List Int) v12)).length : Int)) (b := ((idx (x0.fpages) ((idx ([i1, (i1 - (1 : Int))] : List Int) v12) + (1 : Int))).length : Int)) rfl rfl rfl (c_9 hg) g3) nm0 ?_
    refine RQ.gd (v := pB (decide ((((idx (x0.fpages) (idx ([i1, (i1 - (1 : Int))] : List Int) v12)).length : Int) + ((idx (x0.fpages) ((idx ([i1, (i1 - (1 : Int))] : List Int) v12) + (1 : Int))).length : Int)) ≤ (8 : Int)))) (T := []) (some 41) rfl rfl (by repeat (first | exact trivial | refine ⟨fun q => by first | rfl | exact q | exact cda q | exact cdb q, ?_⟩)) (fun hg => sf_leq (a := (((idx (x0.fpages) (idx ([i1, (i1 - (1 : Int))] : List Int) v12)).length : Int) + ((idx (x0.fpages) ((idx ([i1, (i1 - (1 : Int))] : List Int) v12) + (1 : Int))).length : Int))) (b := (8 : Int)) rfl rfl rfl g3) nm0 ?_
    refine RQ.st (some 42) rfl rfl (sf_pickA rfl rfl rfl rfl (fun hb => by rw [hb]; rfl) (fun _ => rfl) ⟨⟨rfl, rfl⟩, ?_⟩)
    refine RQ.nil (nrm ?_)
    refine QW.cond (t := (((decide ((0 : Int) ≤ (idx ([i1, (i1 - (1 : Int))] : List Int) v12))) && (decide (((idx ([i1, (i1 - (1 : Int))] : List Int) v12) + (1 : Int)) < ((x0.fpages).length : Int)))) && (decide ((((idx (x0.fpages) (idx ([i1, (i1 - (1 : Int))] : List Int) v12)).length : Int) + ((idx (x0.fpages) ((idx ([i1, (i1 - (1 : Int))] : List Int) v12) + (1 : Int))).length : Int)) ≤ (8 : Int))))) rfl zL (fun hb_10 => ?_) (fun hb_10 => ?_)
    · replace h := bGT h hb_10
      refine QW.seq ?_
      refine QW.region zL (PW.regK (id := 5) mixedX (M := _) rfl (by kernel_rfl) ?_)
      refine RK.st (some 43) rfl rfl (sf_ldC (d := .agg (cIndex x0)) rfl TT.tyA_26 rfl (⟨by simp [cIndex], rfl⟩) ?_)
      refine RK.st (some 44) rfl rfl (sf_move (v := pI (idx ([i1, (i1 - (1 : Int))] : List Int) v12)) rfl rfl ?_)
      refine RK.st (some 45) rfl rfl (sf_move (v := pI (idx ([i1, (i1 - (1 : Int))] : List Int) v12)) rfl rfl ?_)
      obtain ⟨c_11, h⟩ := gG h
      refine RK.st (some 46) rfl rfl (sf_add (a := (idx ([i1, (i1 - (1 : Int))] : List Int) v12)) (b := (2 : Int)) rfl rfl rfl c_11 ?_)
      refine RK.st (some 47) rfl rfl (sf_fldC rfl TT.fldA_26_0 (by decide) rfl ?_)
      refine RK.st (some 48) rfl rfl (sf_ldC (d := .slice ((x0.fpages).map (eL eRow))) rfl TT.tyA_24 rfl (LdC.one) ?_)
      refine RK.st (some 49) rfl rfl (sf_move (v := pI (idx ([i1, (i1 - (1 : Int))] : List Int) v12)) rfl rfl ?_)
      obtain ⟨c_12, h⟩ := gG h
      refine RK.st (some 50) rfl rfl (sf_idxA (l := x0.fpages) (i := (idx ([i1, (i1 - (1 : Int))] : List Int) v12)) rfl TT.slcA_24 lay_L rfl rfl c_12 ?_)
      refine RK.st (some 51) rfl rfl (sf_ldC (d := .slice ((idx (x0.fpages) (idx ([i1, (i1 - (1 : Int))] : List Int) v12)).map eRow)) rfl TT.tyA_38 rfl (LdC.one) ?_)
      refine RK.st (some 52) rfl rfl (sf_fldC rfl TT.fldA_26_0 (by decide) rfl ?_)
      refine RK.st (some 53) rfl rfl (sf_ldC (d := .slice ((x0.fpages).map (eL eRow))) rfl TT.tyA_24 rfl (LdC.one) ?_)
      refine RK.st (some 54) rfl rfl (sf_move (v := pI (idx ([i1, (i1 - (1 : Int))] : List Int) v12)) rfl rfl ?_)
      obtain ⟨c_13, h⟩ := gG h
      refine RK.st (some 55) rfl rfl (sf_add (a := (idx ([i1, (i1 - (1 : Int))] : List Int) v12)) (b := (1 : Int)) rfl rfl rfl c_13 ?_)
      obtain ⟨c_14, h⟩ := gG h
      refine RK.st (some 56) rfl rfl (sf_idxA (l := x0.fpages) (i := ((idx ([i1, (i1 - (1 : Int))] : List Int) v12) + (1 : Int))) rfl TT.slcA_24 lay_L rfl rfl c_14 ?_)
      refine RK.st (some 57) rfl rfl (sf_ldC (d := .slice ((idx (x0.fpages) ((idx ([i1, (i1 - (1 : Int))] : List Int) v12) + (1 : Int))).map eRow)) rfl TT.tyA_38 rfl (LdC.one) ?_)
      refine RK.st (some 58) rfl rfl (sf_row (en := (eL eRow)) (l := ([(idx (x0.fpages) (idx ([i1, (i1 - (1 : Int))] : List Int) v12)), (idx (x0.fpages) ((idx ([i1, (i1 - (1 : Int))] : List Int) v12) + (1 : Int)))] : List (List Row))) rfl TT.rowA_24 lay_L rfl rfl (by decide) (by simp [solids, partsP, evP, ofVal, PV.solid, putS_at, tab, unS, unT, unC, asCond, Value.oneCell']) ?_)
      obtain ⟨x_15, hx_16, h⟩ := bG h
      refine RK.st (some 59) rfl rfl (sf_call rfl rfl TT.enters_20 rfl (sim_slices_Concat_api_Row_api_Row ([(idx (x0.fpages) (idx ([i1, (i1 - (1 : Int))] : List Int) v12)), (idx (x0.fpages) ((idx ([i1, (i1 - (1 : Int))] : List Int) v12) + (1 : Int)))] : List (List Row)) _ hx_16) ?_)
      refine RK.st (some 60) rfl rfl (sf_row (en := (eL eRow)) (l := ([x_15] : List (List Row))) rfl TT.rowA_24 lay_L rfl rfl (by decide) (by simp [solids, partsP, evP, ofVal, PV.solid, putS_at, tab, unS, unT, unC, asCond, Value.oneCell']) ?_)
      obtain ⟨x_17, hx_18, h⟩ := bG h
      refine RK.st (some 61) rfl rfl (sf_call rfl rfl TT.enters_28 rfl (sim_pindex_Index_with x0 (idx ([i1, (i1 - (1 : Int))] : List Int) v12) ((idx ([i1, (i1 - (1 : Int))] : List Int) v12) + (2 : Int)) ([x_15] : List (List Row)) _ hx_18) ?_)
      refine RK.st none rfl rfl (sf_stV (l' := [.d (.slice ((x_17.fpages).map (eL eRow)))]) rfl TT.tyA_26 rfl rfl rfl rfl rfl rfl (by simp) rfl ?_)
      refine RK.nil ⟨RecsOK.last 19 (by simp) (by simp) (by rfl), (nrm ?_)⟩
      refine QW.ret zL (blR (thR (thR (blR (thR ?_)))))
      obtain rfl := sG h
      exact Ends.one (.inr rfl) rfl (ResIs.cell rfl rfl TT.tyA_26 ⟨⟨by simp, by simp⟩, rfl⟩) rfl rfl
    · replace h := bGF h hb_10
      refine QW.skip zL (blN (nrm ?_))
      refine rG ?_
      obtain ⟨c_19, h⟩ := gG h
      refine xs 62 rfl (sf_add (a := v12) (b := (1 : Int)) rfl rfl rfl c_19 ?_)
      refine xm 12 (pI (v12 + (1 : Int))) ?_
      refine XK.nz ?_
      exact ⟨k_2, by omega, ⟨tab [(2, .d (.cptr (cIndex x0))), (4, .vptr 0 0), (10, .full (([i1, (i1 - (1 : Int))] : List Int).map eI)), (11, pI (([i1, (i1 - (1 : Int))] : List Int).length : Int)), (12, pI (v12 + (1 : Int)))], tabH [.var [.full (([] : (List (List Row))).map (eL eRow))]], 1, []⟩, View.mk 1 [0] _ _ _ rfl rfl (by decide) (iC (iC (iC (iC (iC trivial))))) (And.intro rfl trivial) rfl zL rfl, (v12 + (1 : Int)), by omega, jG h, rfl⟩
  · replace h := bGF h hb_3
    refine QW.exit zL (thX (thX (exE (nrm ?_))))
    refine sR ?_
    refine xs 63 rfl (sf_ldC (d := .agg (cIndex x0)) rfl TT.tyA_26 rfl (⟨by simp [cIndex], rfl⟩) ?_)
    refine XK.st none rfl rfl (sf_stV (l' := [.d (.slice ((x0.fpages).map (eL eRow)))]) rfl TT.tyA_26 rfl rfl rfl rfl rfl rfl (by simp) rfl ?_)
    refine XK.nz ?_
    refine QW.ret zL ?_
    obtain rfl := sG h
    exact Ends.one (.inr rfl) rfl (ResIs.cell rfl rfl TT.tyA_26 ⟨⟨by simp, by simp⟩, rfl⟩) rfl rfl
noncomputable def g_pindex_Index_Drop (x0 : Index) (s1 : (Arr 32 UInt8)) (epoch2 : Int) : Option (Index × Bool) :=
    ((g_pindex_Index_find x0 s1 epoch2).bind fun (x_1 : (Int × Int × Bool)) =>
    (bif (!(x_1).2.2) then
    some (x0, false)
    else
    gO (0 ≤ (x_1.1) ∧ (x_1.1) < ((x0.fpages).length : Int)) (
    ((g_page_Remove (idx (x0.fpages) (x_1.1)) (x_1.2.1)).bind fun (x_5 : (List Row)) =>
    gO (inI ((x_1.1) + (1 : Int))) (
    ((g_pindex_Index_with x0 (x_1.1) ((x_1.1) + (1 : Int)) ([x_5] : List (List Row))).bind fun (x_8 : Index) =>
    (bif (decide ((x_5.length : Int) = (0 : Int))) then
    some (x_8, true)
    else
    ((g_pindex_Index_joined x_8 (x_1.1)).bind fun (x_11 : Index) =>
    some (x_11, true)))))))))
theorem sim_pindex_Index_Drop (x0 : Index) (s1 : (Arr 32 UInt8)) (epoch2 : Int) (r : (Index × Bool)) (h : g_pindex_Index_Drop x0 s1 epoch2 = some r) : Fun Try.prog 22 [.agg (cIndex x0), .agg (s1.1.map byteD), .val (.int .i64 epoch2)] (.tuple [.agg (cIndex (r.1)), .val (.bool (r.2))]) := by
  refine Fun.of_bodyQ Try.func22 rfl (by simp [Try.ntmps22]) ?_
  rw [Try.ntmps22, TT.res_22]
  refine QW.view (s' := ⟨tab [(0, .d (.agg (cIndex x0))), (1, .d (.agg (s1.1.map byteD))), (2, pI epoch2)], tabH [], 0, []⟩) (View.init (by rfl)) zL ?_
  unfold g_pindex_Index_Drop at h
  refine sR ?_
  refine XK.fz (some 3) rfl rfl (sf_boxF (ds := cIndex x0) rfl rfl rfl rfl rfl ?_)
  refine XK.fz (some 4) rfl rfl (sf_boxF (ds := s1.1.map byteD) rfl rfl rfl rfl toDs_map ?_)
  refine xs 6 rfl (sf_alloc (l := [.full (([] : (List (List Row))).map (eL eRow))]) rfl TT.zeroA_26 rfl rfl ?_)
  refine xz 7 (pB false) ?_
  refine sR ?_
  refine xs 14 rfl (sf_ldC (d := .agg (cIndex x0)) rfl TT.tyA_26 rfl (⟨by simp [cIndex], rfl⟩) ?_)
  refine xs 15 rfl (sf_ldC (d := .agg (s1.1.map byteD)) rfl TT.tyA_41 rfl (ldc_all (by rw [List.length_map, s1.2])) ?_)
  refine xm 16 (pI epoch2) ?_
  obtain ⟨x_1, hx_2, h⟩ := bO h
  refine xs 17 rfl (sf_call rfl rfl TT.enters_43 rfl (sim_pindex_Index_find x0 s1 epoch2 _ hx_2) ?_)
  refine xm 13 (.d (.tuple [.val (.int .i64 (x_1.1)), .val (.int .i64 (x_1.2.1)), .val (.bool (x_1.2.2))])) ?_
  refine xs 18 rfl (sf_extract rfl rfl rfl ?_)
  refine xs 19 rfl (sf_extract rfl rfl rfl ?_)
  refine xs 20 rfl (sf_extract rfl rfl rfl ?_)
  refine xa 8 (pI (x_1.1)) ?_
  refine xa 9 (pI (x_1.2.1)) ?_
  refine xz 10 (pB (x_1.2.2)) ?_
  refine QW.seq ?_
  refine QW.seq ?_
  refine QW.view (s' := ⟨tab [(3, .d (.cptr (cIndex x0))), (6, .vptr 0 0), (8, pI (x_1.1)), (9, pI (x_1.2.1)), (10, pB (x_1.2.2))], tabH [.var [.full (([] : (List (List Row))).map (eL eRow))]], 1, []⟩) (View.mk 1 [0] _ _ _ rfl rfl (by decide) (iC (iC (iC (iC (iC trivial))))) (And.intro rfl trivial) rfl zL rfl) zL ?_
  refine rG ?_
  refine xm 21 (pB (x_1.2.2)) ?_
  refine xs 22 rfl (sf_not rfl rfl ?_)
  refine XK.nz ?_
  refine QW.cond (t := (!(x_1).2.2)) rfl zL (fun hb_3 => ?_) (fun hb_3 => ?_)
  · replace h := bT h hb_3
    refine sR ?_
    refine xs 23 rfl (sf_ldC (d := .agg (cIndex x0)) rfl TT.tyA_26 rfl (⟨by simp [cIndex], rfl⟩) ?_)
    refine XK.st none rfl rfl (sf_stV (l' := [.d (.slice ((x0.fpages).map (eL eRow)))]) rfl TT.tyA_26 rfl rfl rfl rfl rfl rfl (by simp) rfl ?_)
    refine xz 7 (pB false) ?_
    refine QW.ret zL (thR ?_)
    obtain rfl := sO h
    exact Ends.more (.inr rfl) rfl (ps := [.agg [.d (.slice ((x0.fpages).map (eL eRow)))], pB false]) (And.intro (ResIs.cell rfl rfl TT.tyA_26 ⟨⟨by simp, by simp⟩, rfl⟩) (And.intro (ResIs.tmp rfl) trivial)) rfl rfl
  · replace h := bF h hb_3
    refine QW.skip zL (nrm ?_)
    refine sR ?_
    refine xs 24 rfl (sf_fldC rfl TT.fldA_26_0 (by decide) rfl ?_)
    refine xs 25 rfl (sf_ldC (d := .slice ((x0.fpages).map (eL eRow))) rfl TT.tyA_24 rfl (LdC.one) ?_)
    refine xm 26 (pI (x_1.1)) ?_
    obtain ⟨c_4, h⟩ := gO_get h
    refine xs 27 rfl (sf_idxA (l := x0.fpages) (i := (x_1.1)) rfl TT.slcA_24 lay_L rfl rfl c_4 ?_)
    refine xs 28 rfl (sf_ldC (d := .slice ((idx (x0.fpages) (x_1.1)).map eRow)) rfl TT.tyA_38 rfl (LdC.one) ?_)
    refine xm 29 (pI (x_1.2.1)) ?_
    obtain ⟨x_5, hx_6, h⟩ := bO h
    refine xs 30 rfl (sf_call rfl rfl TT.enters_44 rfl (sim_page_Remove (idx (x0.fpages) (x_1.1)) (x_1.2.1) _ hx_6) ?_)
    refine xz 11 (.d (.slice (x_5.map eRow))) ?_
    refine sR ?_
    refine xs 31 rfl (sf_ldC (d := .agg (cIndex x0)) rfl TT.tyA_26 rfl (⟨by simp [cIndex], rfl⟩) ?_)
    refine xm 32 (pI (x_1.1)) ?_
    refine xm 33 (pI (x_1.1)) ?_
    obtain ⟨c_7, h⟩ := gO_get h
    refine xs 34 rfl (sf_add (a := (x_1.1)) (b := (1 : Int)) rfl rfl rfl c_7 ?_)
    refine xm 35 (.d (.slice (x_5.map eRow))) ?_
    refine xs 36 rfl (sf_row (en := (eL eRow)) (l := ([x_5] : List (List Row))) rfl TT.rowA_24 lay_L rfl rfl (by decide) (by simp [solids, partsP, evP, ofVal, PV.solid, putS_at, tab, unS, unT, unC, asCond, Value.oneCell']) ?_)
    obtain ⟨x_8, hx_9, h⟩ := bO h
    refine xs 37 rfl (sf_call rfl rfl TT.enters_28 rfl (sim_pindex_Index_with x0 (x_1.1) ((x_1.1) + (1 : Int)) ([x_5] : List (List Row)) _ hx_9) ?_)
    refine xs 12 rfl (sf_alloc (l := [.full (([] : (List (List Row))).map (eL eRow))]) rfl TT.zeroA_26 rfl rfl ?_)
    refine XK.st none rfl rfl (sf_stV (l' := [.d (.slice ((x_8.fpages).map (eL eRow)))]) rfl TT.tyA_26 rfl rfl rfl rfl rfl rfl (by simp) rfl ?_)
    refine XK.nz ?_
    refine QW.seq ?_
    refine QW.seq ?_
    refine QW.view (s' := ⟨tab [(6, .vptr 0 0), (8, pI (x_1.1)), (11, .d (.slice (x_5.map eRow))), (12, .vptr 1 0)], tabH [.var [.full (([] : (List (List Row))).map (eL eRow))], .var [.d (.slice ((x_8.fpages).map (eL eRow)))]], 2, []⟩) (View.mk 2 [0, 1] _ _ _ rfl rfl (by decide) (iC (iC (iC (iC trivial)))) (And.intro rfl (And.intro rfl trivial)) rfl zL rfl) zL ?_
    refine rG ?_
    refine xm 38 (.d (.slice (x_5.map eRow))) ?_
    refine xs 39 rfl (sf_lenL (en := eRow) (l := x_5) rfl TT.under_38 rfl ?_)
    refine xs 40 rfl (sf_eq (a := (x_5.length : Int)) (b := (0 : Int)) rfl rfl rfl ?_)
    refine XK.nz ?_
    refine QW.cond (t := (decide ((x_5.length : Int) = (0 : Int)))) rfl zL (fun hb_10 => ?_) (fun hb_10 => ?_)
    · replace h := bT h hb_10
      refine sR ?_
      refine XK.as (some 41) rfl rfl (sf_ldV (v := .agg [.d (.slice ((x_8.fpages).map (eL eRow)))]) rfl TT.tyA_26 rfl rfl ⟨⟨by simp, by simp⟩, rfl⟩ ⟨.d (.agg (cIndex x_8)), (Imp.toD rfl), ?_⟩)
      refine XK.st none rfl rfl (sf_stV (l' := [.d (.slice ((x_8.fpages).map (eL eRow)))]) rfl TT.tyA_26 rfl rfl rfl rfl rfl rfl (by simp) rfl ?_)
      refine xz 7 (pB true) ?_
      refine QW.ret zL (thR ?_)
      obtain rfl := sO h
      exact Ends.more (.inr rfl) rfl (ps := [.agg [.d (.slice ((x_8.fpages).map (eL eRow)))], pB true]) (And.intro (ResIs.cell rfl rfl TT.tyA_26 ⟨⟨by simp, by simp⟩, rfl⟩) (And.intro (ResIs.tmp rfl) trivial)) rfl rfl
    · replace h := bF h hb_10
      refine QW.skip zL (nrm ?_)
      refine sR ?_
      refine XK.as (some 42) rfl rfl (sf_ldV (v := .agg [.d (.slice ((x_8.fpages).map (eL eRow)))]) rfl TT.tyA_26 rfl rfl ⟨⟨by simp, by simp⟩, rfl⟩ ⟨.d (.agg (cIndex x_8)), (Imp.toD rfl), ?_⟩)
      refine xm 43 (pI (x_1.1)) ?_
      obtain ⟨x_11, hx_12, h⟩ := bO h
      refine xs 44 rfl (sf_call rfl rfl TT.enters_45 rfl (sim_pindex_Index_joined x_8 (x_1.1) _ hx_12) ?_)
      refine XK.st none rfl rfl (sf_stV (l' := [.d (.slice ((x_11.fpages).map (eL eRow)))]) rfl TT.tyA_26 rfl rfl rfl rfl rfl rfl (by simp) rfl ?_)
      refine xz 7 (pB true) ?_
      refine QW.ret zL ?_
      obtain rfl := sO h
      exact Ends.more (.inr rfl) rfl (ps := [.agg [.d (.slice ((x_11.fpages).map (eL eRow)))], pB true]) (And.intro (ResIs.cell rfl rfl TT.tyA_26 ⟨⟨by simp, by simp⟩, rfl⟩) (And.intro (ResIs.tmp rfl) trivial)) rfl rfl
inductive C_pindex_Index_Text where
  | S
  | L1 (v4 : (List (List UInt8))) (v12 : Int)
noncomputable def step_pindex_Index_Text (x0 : Index) : C_pindex_Index_Text → Option (C_pindex_Index_Text ⊕ ((List UInt8) × Int))
  | .S =>
    some (.inl (.L1 ([] : (List (List UInt8))) (0)))
  | .L1 v4 v12 =>
    (bif (decide (v12 < ((x0.fpages).length : Int))) then
    gO (0 ≤ v12 ∧ v12 < ((x0.fpages).length : Int)) (
    ((g_page_Put (idx (x0.fpages) v12)).bind fun (x_4 : ((List UInt8) × Int)) =>
    (bif (!decide ((x_4.2) = (0 : Int))) then
    some (.inr (([] : List UInt8), x_4.2))
    else
    gO ((v4.length + ([x_4.1] : List (List UInt8)).length) * 16 ≤ 140737488355328) (
    gO (inI (v12 + (1 : Int))) (
    some (.inl (.L1 (v4 ++ ([x_4.1] : List (List UInt8))) (v12 + (1 : Int)))))))))
    else
    ((g_wide_Texts v4).bind fun (x_9 : (List UInt8)) =>
    some (.inr (x_9, 0))))
noncomputable def g_pindex_Index_Text (x0 : Index) : Option ((List UInt8) × Int) := theC (step_pindex_Index_Text x0) .S
theorem sim_pindex_Index_Text (x0 : Index) (r : ((List UInt8) × Int)) (h : g_pindex_Index_Text x0 = some r) : Fun Try.prog 6 [.agg (cIndex x0)] (.tuple [.val (sV (r.1)), .val (.int .i64 (r.2))]) := by
  refine Fun.of_bodyQ Try.func6 rfl (by simp [Try.ntmps6]) ?_
  rw [Try.ntmps6, TT.res_6]
  refine QW.view (s' := ⟨tab [(0, .d (.agg (cIndex x0)))], tabH [], 0, []⟩) (View.init (by rfl)) zL ?_
  replace h := theC_get h
  obtain ⟨_, h⟩ := h
  obtain ⟨k_0, rfl, h9⟩ := run_succ h; replace h := h9; clear h9; rw [step_pindex_Index_Text] at h
  refine sR ?_
  refine XK.fz (some 1) rfl rfl (sf_boxF (ds := cIndex x0) rfl rfl rfl rfl rfl ?_)
  refine xa 2 (pS ([] : List UInt8)) ?_
  refine xz 3 (pI (0)) ?_
  refine sR ?_
  refine xz 4 (.full (([] : (List (List UInt8))).map eS)) ?_
  refine QW.seq ?_
  refine sR ?_
  refine xs 9 rfl (sf_fldC rfl TT.fldA_26_0 (by decide) rfl ?_)
  refine xs 10 rfl (sf_ldC (d := .slice ((x0.fpages).map (eL eRow))) rfl TT.tyA_24 rfl (LdC.one) ?_)
  refine xs 11 rfl (sf_lenL (en := (eL eRow)) (l := x0.fpages) rfl TT.under_24 rfl ?_)
  refine xm 12 (pI (0)) ?_
  refine XK.nz ?_
  refine QW.block ?_
  refine QW.loop (fun k σ => ∃ v4 : (List (List UInt8)), ∃ v12 : Int, k ≤ k_0 ∧ run (step_pindex_Index_Text x0) k (.L1 v4 v12) = some r ∧ σ = ⟨tab [(4, .own 0 (v4.map eS)), (10, .d (.slice ((x0.fpages).map (eL eRow)))), (11, pI ((x0.fpages).length : Int)), (12, pI v12)], tabH [.spare 1 v4.length], 1, []⟩) k_0 zL ⟨⟨tab [(4, .own 0 (([] : (List (List UInt8))).map eS)), (10, .d (.slice ((x0.fpages).map (eL eRow)))), (11, pI ((x0.fpages).length : Int)), (12, pI (0))], tabH [.spare 1 ([] : (List (List UInt8))).length], 1, []⟩, View.trans (View.buf 4 1 rfl zL) (View.mk 1 [0] _ _ _ rfl rfl (by decide) (iC (iC (iC (iC trivial)))) (And.intro rfl trivial) rfl zL rfl), ([] : (List (List UInt8))), 0, Nat.le_refl _, jG h, rfl⟩ ?_
  rintro k_1s _ ⟨v4, v12, k_1h, h, rfl⟩
  obtain ⟨k_1, rfl, h9⟩ := run_succ h; replace h := h9; clear h9; rw [step_pindex_Index_Text] at h
  refine sR ?_
  refine xs 13 rfl (sf_lss (a := v12) (b := ((x0.fpages).length : Int)) rfl rfl rfl ?_)
  refine XK.nz ?_
  refine QW.seq ?_
  refine QW.cond (t := (decide (v12 < ((x0.fpages).length : Int)))) rfl zL (fun hb_2 => ?_) (fun hb_2 => ?_)
  · replace h := bGT h hb_2
    refine QW.skip zL (nrm ?_)
    refine QW.seq ?_
    refine QW.block ?_
    refine sR ?_
    obtain ⟨c_3, h⟩ := gG h
    refine xs 14 rfl (sf_idxA (l := x0.fpages) (i := v12) rfl TT.slcA_24 lay_L rfl rfl c_3 ?_)
    refine xs 15 rfl (sf_ldC (d := .slice ((idx (x0.fpages) v12).map eRow)) rfl TT.tyA_38 rfl (LdC.one) ?_)
    refine xz 6 (.d (.slice ((idx (x0.fpages) v12).map eRow))) ?_
    refine sR ?_
    refine xm 17 (.d (.slice ((idx (x0.fpages) v12).map eRow))) ?_
    obtain ⟨x_4, hx_5, h⟩ := bG h
    refine xs 18 rfl (sf_call rfl rfl TT.enters_17 rfl (sim_page_Put (idx (x0.fpages) v12) _ hx_5) ?_)
    refine xm 16 (.d (.tuple [.val (sV (x_4.1)), .val (.int .i64 (x_4.2))])) ?_
    refine xs 19 rfl (sf_extract rfl rfl rfl ?_)
    refine xs 20 rfl (sf_extract rfl rfl rfl ?_)
    refine xa 7 (pS (x_4.1)) ?_
    refine xz 8 (pI (x_4.2)) ?_
    refine QW.seq ?_
    refine sR ?_
    refine xm 21 (pI (x_4.2)) ?_
    refine xs 22 rfl (sf_ne (a := (x_4.2)) (b := (0 : Int)) rfl rfl rfl ?_)
    refine XK.nz ?_
    refine QW.cond (t := (!decide ((x_4.2) = (0 : Int)))) rfl zL (fun hb_6 => ?_) (fun hb_6 => ?_)
    · replace h := bGT h hb_6
      refine sR ?_
      refine xm 23 (pI (x_4.2)) ?_
      refine xa 2 (pS ([] : List UInt8)) ?_
      refine xz 3 (pI (x_4.2)) ?_
      refine QW.ret zL (thR (blR (thR (thR (blR (thR ?_))))))
      obtain rfl := sG h
      exact Ends.more (.inr rfl) rfl (ps := [pS ([] : List UInt8), pI (x_4.2)]) (And.intro (ResIs.tmp rfl) (And.intro (ResIs.tmp rfl) trivial)) rfl rfl
    · replace h := bGF h hb_6
      refine QW.skip zL (nrm ?_)
      refine rG ?_
      refine xm 24 (.own 0 (v4.map eS)) ?_
      refine xm 25 (pS (x_4.1)) ?_
      refine xs 26 rfl (sf_row (en := eS) (l := ([x_4.1] : List (List UInt8))) rfl TT.rowA_56 lay_S rfl rfl (by decide) (by simp [solids, partsP, evP, ofVal, PV.solid, putS_at, tab, unS, unT, unC, asCond, Value.oneCell']) ?_)
      obtain ⟨c_7, h⟩ := gG h
      refine xs 27 rfl (sf_appO (en := eS) (l := v4) (l2 := ([x_4.1] : List (List UInt8))) rfl TT.rowA_56 TT.under_56 rfl lay_S rfl rfl rfl c_7 (by decide) ?_)
      refine xa 4 (.own 1 ((v4 ++ ([x_4.1] : List (List UInt8))).map eS)) ?_
      refine XK.nil (blN (nrm ?_))
      refine rG ?_
      obtain ⟨c_8, h⟩ := gG h
      refine xs 28 rfl (sf_add (a := v12) (b := (1 : Int)) rfl rfl rfl c_8 ?_)
      refine xm 12 (pI (v12 + (1 : Int))) ?_
      refine XK.nz ?_
      exact ⟨k_1, by omega, ⟨tab [(4, .own 0 ((v4 ++ ([x_4.1] : List (List UInt8))).map eS)), (10, .d (.slice ((x0.fpages).map (eL eRow)))), (11, pI ((x0.fpages).length : Int)), (12, pI (v12 + (1 : Int)))], tabH [.spare 1 (v4 ++ ([x_4.1] : List (List UInt8))).length], 1, []⟩, View.mk 1 [1] _ _ _ rfl rfl (by decide) (iC (iC (iC (iC trivial)))) (And.intro rfl trivial) rfl zL rfl, (v4 ++ ([x_4.1] : List (List UInt8))), (v12 + (1 : Int)), by omega, jG h, rfl⟩
  · replace h := bGF h hb_2
    refine QW.exit zL (thX (thX (exE (nrm ?_))))
    refine sR ?_
    refine xm 29 (.own 0 (v4.map eS)) ?_
    obtain ⟨x_9, hx_10, h⟩ := bG h
    refine xs 30 rfl (sf_call rfl rfl TT.enters_18 rfl (sim_wide_Texts v4 _ hx_10) ?_)
    refine xa 2 (pS x_9) ?_
    refine xz 3 (pI (0)) ?_
    refine QW.ret zL ?_
    obtain rfl := sG h
    exact Ends.more (.inr rfl) rfl (ps := [pS x_9, pI (0)]) (And.intro (ResIs.tmp rfl) (And.intro (ResIs.tmp rfl) trivial)) rfl rfl
inductive C_pindex_Load where
  | S
  | L1 (v4_0_2 : (List UInt8)) (v4_1_2 : Int) (v5_0 : (List (List Row)))
  | L2 (v10_2 : (List Row)) (v11 : Int) (v5_0_4 : (List (List Row)))
noncomputable def step_pindex_Load (s0 : (List UInt8)) : C_pindex_Load → Option (C_pindex_Load ⊕ (Index × Int))
  | .S =>
    ((g_wide_On s0).bind fun (q_3 : Cut) =>
    some (.inl (.L1 (q_3.fs) (q_3.fe) ([] : (List (List Row))))))
  | .L1 v4_0_2 v4_1_2 v5_0 =>
    ((g_wide_Cut_Rest (⟨v4_0_2, v4_1_2⟩ : Cut)).bind fun (q_7 : ((List UInt8) × Cut)) =>
    (bif (!((q_7.1) == ([] : List UInt8))) then
    ((g_wide_Cut_Text (q_7.2)).bind fun (q_11 : ((List UInt8) × Cut)) =>
    ((g_wide_Cut_Err (q_11.2)).bind fun (q_14 : (Int × Cut)) =>
    (bif (!decide ((q_14.1) = (0 : Int))) then
    some (.inr ((⟨([] : (List (List Row)))⟩ : Index), (q_14.1)))
    else
    ((g_page_Get (q_11.1)).bind fun (x_16 : ((List Row) × Int)) =>
    (bif ((!decide ((x_16.2) = (0 : Int))) || (decide (((x_16.1).length : Int) = (0 : Int)))) then
    some (.inr ((⟨([] : (List (List Row)))⟩ : Index), 6))
    else
    gO ((v5_0.length + ([x_16.1] : List (List Row)).length) * 24 ≤ 140737488355328) (
    some (.inl (.L1 ((q_14.2).fs) ((q_14.2).fe) (v5_0 ++ ([x_16.1] : List (List Row)))))))))))
    else
    ((g_pindex_Index_All (⟨v5_0⟩ : Index)).bind fun (x_20 : (List Row)) =>
    some (.inl (.L2 x_20 (1) v5_0)))))
  | .L2 v10_2 v11 v5_0_4 =>
    (bif (decide (v11 < (v10_2.length : Int))) then
    gO (inI (v11 - (1 : Int))) (
    gO (0 ≤ (v11 - (1 : Int)) ∧ (v11 - (1 : Int)) < (v10_2.length : Int)) (
    gO (0 ≤ v11 ∧ v11 < (v10_2.length : Int)) (
    ((g_page_Less (idx v10_2 (v11 - (1 : Int))) (idx v10_2 v11)).bind fun (x_27 : Bool) =>
    (bif (!x_27) then
    some (.inr ((⟨([] : (List (List Row)))⟩ : Index), 6))
    else
    gO (inI (v11 + (1 : Int))) (
    some (.inl (.L2 v10_2 (v11 + (1 : Int)) v5_0_4))))))))
    else
    some (.inr ((⟨v5_0_4⟩ : Index), 0)))
noncomputable def g_pindex_Load (s0 : (List UInt8)) : Option (Index × Int) := theC (step_pindex_Load s0) .S
theorem sim_pindex_Load (s0 : (List UInt8)) (r : (Index × Int)) (h : g_pindex_Load s0 = some r) : Fun Try.prog 19 [.val (sV s0)] (.tuple [.agg (cIndex (r.1)), .val (.int .i64 (r.2))]) := by
  refine Fun.of_bodyQ Try.func19 rfl (by simp [Try.ntmps19]) ?_
  rw [Try.ntmps19, TT.res_19]
  refine QW.view (s' := ⟨tab [(0, pS s0)], tabH [], 0, []⟩) (View.init (by rfl)) zL ?_
  replace h := theC_get h
  obtain ⟨_, h⟩ := h
  obtain ⟨k_0, rfl, h9⟩ := run_succ h; replace h := h9; clear h9; rw [step_pindex_Load] at h
  refine sR ?_
  refine xs 2 rfl (sf_alloc (l := [.full (([] : (List (List Row))).map (eL eRow))]) rfl TT.zeroA_26 rfl rfl ?_)
  refine xz 3 (pI (0)) ?_
  refine sR ?_
  refine xm 12 (pS s0) ?_
  obtain ⟨q_3, hx_2, h⟩ := bG h
  refine XK.fr (p := .vptr 1 0) (H2 := putH _ 1 (some (.var [pS (q_3.fs), pI (q_3.fe)]))) (nx2 := 2) (some 13) rfl rfl (xcall_frame [] rfl rfl TT.enters_34 (sim_wide_On s0 _ hx_2) rfl rfl (by decide) trivial bL) rfl rfl rfl ?_
  refine xz 4 (.vptr 1 0) ?_
  refine sR ?_
  refine xs 5 rfl (sf_alloc (l := [.full (([] : (List (List Row))).map (eL eRow))]) rfl TT.zeroA_26 rfl rfl ?_)
  refine XK.nz ?_
  refine QW.seq ?_
  refine QW.block ?_
  refine QW.loop (fun k σ => ∃ v4_0_2 : (List UInt8), ∃ v4_1_2 : Int, ∃ v5_0 : (List (List Row)), k ≤ k_0 ∧ run (step_pindex_Load s0) k (.L1 v4_0_2 v4_1_2 v5_0) = some r ∧ σ = ⟨tab [(2, .vptr 0 0), (4, .vptr 1 0), (5, .vptr 2 0)], tabH [.var [.full (([] : (List (List Row))).map (eL eRow))], .var [pS v4_0_2, pI v4_1_2], .var [.own 3 (v5_0.map (eL eRow))], .spare 1 v5_0.length], 4, []⟩) k_0 zL ⟨⟨tab [(2, .vptr 0 0), (4, .vptr 1 0), (5, .vptr 2 0)], tabH [.var [.full (([] : (List (List Row))).map (eL eRow))], .var [pS (q_3.fs), pI (q_3.fe)], .var [.own 3 (([] : (List (List Row))).map (eL eRow))], .spare 1 ([] : (List (List Row))).length], 4, []⟩, View.trans (View.bufV 2 0 1 rfl rfl zL) (View.mk 4 [0, 1, 2, 3] _ _ _ rfl rfl (by decide) (iC (iC (iC trivial))) (And.intro rfl (And.intro rfl (And.intro rfl (And.intro rfl trivial)))) rfl zL rfl), q_3.fs, q_3.fe, ([] : (List (List Row))), Nat.le_refl _, jG h, rfl⟩ ?_
  rintro k_4s _ ⟨v4_0_2, v4_1_2, v5_0, k_4h, h, rfl⟩
  obtain ⟨k_4, rfl, h9⟩ := run_succ h; replace h := h9; clear h9; rw [step_pindex_Load] at h
  refine QW.seq ?_
  refine sR ?_
  refine xm 14 (.vptr 1 0) ?_
  obtain ⟨q_7, hx_6, h⟩ := bG h
  refine XK.fr (p := pS (q_7.1)) (H2 := putH _ 1 (some (.var [pS ((q_7.2).fs), pI ((q_7.2).fe)]))) (nx2 := 4) (some 15) rfl rfl (xcall_frame [1] rfl rfl TT.enters_35 (sim_wide_Cut_Rest (⟨v4_0_2, v4_1_2⟩ : Cut) _ hx_6) rfl rfl (by decide) (And.intro rfl trivial) bL) rfl rfl rfl ?_
  refine xs 16 rfl (sf_sne (a := (q_7.1)) (b := ([] : List UInt8)) rfl rfl rfl ?_)
  refine XK.nz ?_
  refine QW.cond (t := (!((q_7.1) == ([] : List UInt8)))) rfl zL (fun hb_8 => ?_) (fun hb_8 => ?_)
  · replace h := bGT h hb_8
    refine QW.skip zL (nrm ?_)
    refine QW.block ?_
    refine sR ?_
    refine xm 17 (.vptr 1 0) ?_
    obtain ⟨q_11, hx_10, h⟩ := bG h
    refine XK.fr (p := pS (q_11.1)) (H2 := putH _ 1 (some (.var [pS ((q_11.2).fs), pI ((q_11.2).fe)]))) (nx2 := 4) (some 18) rfl rfl (xcall_frame [1] rfl rfl TT.enters_36 (sim_wide_Cut_Text (q_7.2) _ hx_10) rfl rfl (by decide) (And.intro rfl trivial) bL) rfl rfl rfl ?_
    refine xz 6 (pS (q_11.1)) ?_
    refine QW.seq ?_
    refine sR ?_
    refine xm 19 (.vptr 1 0) ?_
    obtain ⟨q_14, hx_13, h⟩ := bG h
    refine XK.fr (p := pI (q_14.1)) (H2 := putH _ 1 (some (.var [pS ((q_14.2).fs), pI ((q_14.2).fe)]))) (nx2 := 4) (some 20) rfl rfl (xcall_frame [1] rfl rfl TT.enters_37 (sim_wide_Cut_Err (q_11.2) _ hx_13) rfl rfl (by decide) (And.intro rfl trivial) bL) rfl rfl rfl ?_
    refine xz 7 (pI (q_14.1)) ?_
    refine sR ?_
    refine xm 21 (pI (q_14.1)) ?_
    refine xs 22 rfl (sf_ne (a := (q_14.1)) (b := (0 : Int)) rfl rfl rfl ?_)
    refine XK.nz ?_
    refine QW.cond (t := (!decide ((q_14.1) = (0 : Int)))) rfl zL (fun hb_15 => ?_) (fun hb_15 => ?_)
    · replace h := bGT h hb_15
      refine sR ?_
      refine xs 23 rfl (sf_bld (v := .agg [.full (([] : (List (List Row))).map (eL eRow))]) rfl TT.bldA_26 (build_of rfl fill_nil) ?_)
      refine xm 24 (pI (q_14.1)) ?_
      refine XK.st none rfl rfl (sf_stV (l' := [.full (([] : (List (List Row))).map (eL eRow))]) rfl TT.tyA_26 rfl rfl rfl rfl rfl rfl (by simp) rfl ?_)
      refine xz 3 (pI (q_14.1)) ?_
      refine QW.ret zL (thR (blR (thR (blR (thR ?_)))))
      obtain rfl := sG h
      exact Ends.more (.inr rfl) rfl (ps := [.agg [.full (([] : (List (List Row))).map (eL eRow))], pI (q_14.1)]) (And.intro (ResIs.cell rfl rfl TT.tyA_26 ⟨⟨by simp, by simp⟩, rfl⟩) (And.intro (ResIs.tmp rfl) trivial)) rfl rfl
    · replace h := bGF h hb_15
      refine QW.skip zL (nrm ?_)
      refine sR ?_
      refine xm 26 (pS (q_11.1)) ?_
      obtain ⟨x_16, hx_17, h⟩ := bG h
      refine xs 27 rfl (sf_call rfl rfl TT.enters_38 rfl (sim_page_Get (q_11.1) _ hx_17) ?_)
      refine xm 25 (.d (.tuple [.slice ((x_16.1).map eRow), .val (.int .i64 (x_16.2))])) ?_
      refine xs 28 rfl (sf_extract rfl rfl rfl ?_)
      refine xs 29 rfl (sf_extract rfl rfl rfl ?_)
      refine xa 8 (.d (.slice ((x_16.1).map eRow))) ?_
      refine xz 9 (pI (x_16.2)) ?_
      refine QW.seq ?_
      refine sR ?_
      refine xm 30 (pI (x_16.2)) ?_
      refine xs 31 rfl (sf_ne (a := (x_16.2)) (b := (0 : Int)) rfl rfl rfl ?_)
      refine xm 32 (pB (!decide ((x_16.2) = (0 : Int)))) ?_
      refine xg 33 (.d (.slice ((x_16.1).map eRow))) rfl rfl (fun hg => sf_move (v := .d (.slice ((x_16.1).map eRow))) rfl rfl g3) ?_
      refine xg 34 (pI ((x_16.1).length : Int)) rfl rfl (fun hg => sf_lenL (en := eRow) (l := x_16.1) rfl TT.under_38 rfl g3) ?_
      refine xg 35 (pB (decide (((x_16.1).length : Int) = (0 : Int)))) rfl rfl (fun hg => sf_eq (a := ((x_16.1).length : Int)) (b := (0 : Int)) rfl rfl rfl g3) ?_
      refine xs 36 rfl (sf_pickO rfl rfl rfl rfl (fun _ => rfl) (fun hb => by rw [hb]; rfl) ?_)
      refine XK.nz ?_
      refine QW.cond (t := ((!decide ((x_16.2) = (0 : Int))) || (decide (((x_16.1).length : Int) = (0 : Int))))) rfl zL (fun hb_18 => ?_) (fun hb_18 => ?_)
      · replace h := bGT h hb_18
        refine sR ?_
        refine xs 37 rfl (sf_bld (v := .agg [.full (([] : (List (List Row))).map (eL eRow))]) rfl TT.bldA_26 (build_of rfl fill_nil) ?_)
        refine XK.st none rfl rfl (sf_stV (l' := [.full (([] : (List (List Row))).map (eL eRow))]) rfl TT.tyA_26 rfl rfl rfl rfl rfl rfl (by simp) rfl ?_)
        refine xz 3 (pI (6)) ?_
        refine QW.ret zL (thR (blR (thR (blR (thR ?_)))))
        obtain rfl := sG h
        exact Ends.more (.inr rfl) rfl (ps := [.agg [.full (([] : (List (List Row))).map (eL eRow))], pI (6)]) (And.intro (ResIs.cell rfl rfl TT.tyA_26 ⟨⟨by simp, by simp⟩, rfl⟩) (And.intro (ResIs.tmp rfl) trivial)) rfl rfl
      · replace h := bGF h hb_18
        refine QW.skip zL (nrm ?_)
        refine rG ?_
        refine xs 38 rfl (sf_fldV rfl TT.fldA_26_0 (by decide) rfl ?_)
        refine xs 39 rfl (sf_ldV (v := .own 3 (v5_0.map (eL eRow))) rfl TT.tyA_24 rfl rfl ⟨⟨by simp, by simp⟩, rfl⟩ ?_)
        refine xm 40 (.d (.slice ((x_16.1).map eRow))) ?_
        refine xs 41 rfl (sf_row (en := (eL eRow)) (l := ([x_16.1] : List (List Row))) rfl TT.rowA_24 lay_L rfl rfl (by decide) (by simp [solids, partsP, evP, ofVal, PV.solid, putS_at, tab, unS, unT, unC, asCond, Value.oneCell']) ?_)
        obtain ⟨c_19, h⟩ := gG h
        refine xs 42 rfl (sf_appO (en := (eL eRow)) (l := v5_0) (l2 := ([x_16.1] : List (List Row))) rfl TT.rowA_24 TT.under_24 rfl lay_L rfl rfl rfl c_19 (by decide) ?_)
        refine xs 43 rfl (sf_fldV rfl TT.fldA_26_0 (by decide) rfl ?_)
        refine XK.st none rfl rfl (sf_stV (l' := [.own 4 ((v5_0 ++ ([x_16.1] : List (List Row))).map (eL eRow))]) rfl TT.tyA_24 rfl rfl rfl rfl rfl rfl (by simp) rfl ?_)
        refine XK.nil (blN (nrm ?_))
        exact ⟨k_4, by omega, ⟨tab [(2, .vptr 0 0), (4, .vptr 1 0), (5, .vptr 2 0)], tabH [.var [.full (([] : (List (List Row))).map (eL eRow))], .var [pS ((q_14.2).fs), pI ((q_14.2).fe)], .var [.own 3 ((v5_0 ++ ([x_16.1] : List (List Row))).map (eL eRow))], .spare 1 (v5_0 ++ ([x_16.1] : List (List Row))).length], 4, []⟩, View.mk 4 [0, 1, 2, 4] _ _ _ rfl rfl (by decide) (iC (iC (iC trivial))) (And.intro rfl (And.intro rfl (And.intro rfl (And.intro rfl trivial)))) rfl zL rfl, (q_14.2).fs, (q_14.2).fe, (v5_0 ++ ([x_16.1] : List (List Row))), by omega, jG h, rfl⟩
  · replace h := bGF h hb_8
    refine QW.exit zL (thX (thX (exE (nrm ?_))))
    refine sR ?_
    refine xs 44 rfl (sf_ldV (v := .agg [.own 3 (v5_0.map (eL eRow))]) rfl TT.tyA_26 rfl rfl ⟨⟨by simp, by simp⟩, rfl⟩ ?_)
    obtain ⟨x_20, hx_21, h⟩ := bG h
    refine xs 45 rfl (sf_call rfl rfl TT.enters_9 rfl (sim_pindex_Index_All (⟨v5_0⟩ : Index) _ hx_21) ?_)
    refine xz 10 (.d (.slice (x_20.map eRow))) ?_
    refine QW.seq ?_
    refine sR ?_
    refine xz 11 (pI (1)) ?_
    refine QW.block ?_
    refine QW.loop (fun k σ => ∃ v10_2 : (List Row), ∃ v11 : Int, ∃ v5_0_4 : (List (List Row)), k ≤ k_4 ∧ run (step_pindex_Load s0) k (.L2 v10_2 v11 v5_0_4) = some r ∧ σ = ⟨tab [(2, .vptr 0 0), (5, .vptr 1 0), (10, .d (.slice (v10_2.map eRow))), (11, pI v11)], tabH [.var [.full (([] : (List (List Row))).map (eL eRow))], .var [.own 2 (v5_0_4.map (eL eRow))], .spare 1 v5_0_4.length], 3, []⟩) k_4 zL ⟨⟨tab [(2, .vptr 0 0), (5, .vptr 1 0), (10, .d (.slice (x_20.map eRow))), (11, pI (1))], tabH [.var [.full (([] : (List (List Row))).map (eL eRow))], .var [.own 2 (v5_0.map (eL eRow))], .spare 1 v5_0.length], 3, []⟩, View.mk 3 [0, 2, 3] _ _ _ rfl rfl (by decide) (iC (iC (iC (iC trivial)))) (And.intro rfl (And.intro rfl (And.intro rfl trivial))) rfl zL rfl, x_20, 1, v5_0, Nat.le_refl _, jG h, rfl⟩ ?_
    rintro k_22s _ ⟨v10_2, v11, v5_0_4, k_22h, h, rfl⟩
    obtain ⟨k_22, rfl, h9⟩ := run_succ h; replace h := h9; clear h9; rw [step_pindex_Load] at h
    refine QW.seq ?_
    refine sR ?_
    refine xm 46 (pI v11) ?_
    refine xm 47 (.d (.slice (v10_2.map eRow))) ?_
    refine xs 48 rfl (sf_lenL (en := eRow) (l := v10_2) rfl TT.under_38 rfl ?_)
    refine xs 49 rfl (sf_lss (a := v11) (b := (v10_2.length : Int)) rfl rfl rfl ?_)
    refine XK.nz ?_
    refine QW.cond (t := (decide (v11 < (v10_2.length : Int)))) rfl zL (fun hb_23 => ?_) (fun hb_23 => ?_)
    · replace h := bGT h hb_23
      refine QW.skip zL (nrm ?_)
      refine QW.seq ?_
      refine QW.block ?_
      refine QW.seq ?_
      refine QW.region zL (PW.regQ (id := 16) mixedX (M := _) rfl (by kernel_rfl) ?_)
      refine RQ.st (some 52) rfl rfl (sf_move (v := .d (.slice (v10_2.map eRow))) rfl rfl ⟨⟨rfl, rfl⟩, ?_⟩)
      refine RQ.st (some 53) rfl rfl (sf_move (v := pI v11) rfl rfl ⟨⟨rfl, rfl⟩, ?_⟩)
      obtain ⟨c_24, h⟩ := gG h
      refine RQ.st (some 54) rfl rfl (sf_sub (a := v11) (b := (1 : Int)) rfl rfl rfl c_24 ⟨⟨rfl, rfl⟩, ?_⟩)
      obtain ⟨c_25, h⟩ := gG h
      refine RQ.st (some 55) rfl rfl (sf_idxA (l := v10_2) (i := (v11 - (1 : Int))) rfl TT.slcA_38 lay_Row rfl rfl c_25 ⟨⟨rfl, rfl⟩, ?_⟩)
      refine RQ.st (some 56) rfl rfl (sf_ldC (d := .agg (cRow (idx v10_2 (v11 - (1 : Int))))) rfl TT.tyA_44 rfl (⟨by rw [lay_Row.len]; decide, congrArg D.agg (List.take_of_length_le (by rw [lay_Row.len]; decide))⟩) ⟨⟨rfl, rfl⟩, ?_⟩)
      refine RQ.st (some 57) rfl rfl (sf_move (v := .d (.slice (v10_2.map eRow))) rfl rfl ⟨⟨rfl, rfl⟩, ?_⟩)
      refine RQ.st (some 58) rfl rfl (sf_move (v := pI v11) rfl rfl ⟨⟨rfl, rfl⟩, ?_⟩)
      obtain ⟨c_26, h⟩ := gG h
      refine RQ.st (some 59) rfl rfl (sf_idxA (l := v10_2) (i := v11) rfl TT.slcA_38 lay_Row rfl rfl c_26 ⟨⟨rfl, rfl⟩, ?_⟩)
      refine RQ.st (some 60) rfl rfl (sf_ldC (d := .agg (cRow (idx v10_2 v11))) rfl TT.tyA_44 rfl (⟨by rw [lay_Row.len]; decide, congrArg D.agg (List.take_of_length_le (by rw [lay_Row.len]; decide))⟩) ⟨⟨rfl, rfl⟩, ?_⟩)
      obtain ⟨x_27, hx_28, h⟩ := bG h
      refine RQ.st (some 61) rfl rfl (sf_call rfl rfl TT.enters_39 rfl (sim_page_Less (idx v10_2 (v11 - (1 : Int))) (idx v10_2 v11) _ hx_28) ⟨⟨rfl, rfl⟩, ?_⟩)
      refine RQ.st (some 62) rfl rfl (sf_not rfl rfl ⟨⟨rfl, rfl⟩, ?_⟩)
      refine RQ.nil (nrm ?_)
      refine QW.cond (t := (!x_27)) rfl zL (fun hb_29 => ?_) (fun hb_29 => ?_)
      · replace h := bGT h hb_29
        refine sR ?_
        refine xs 63 rfl (sf_bld (v := .agg [.full (([] : (List (List Row))).map (eL eRow))]) rfl TT.bldA_26 (build_of rfl fill_nil) ?_)
        refine XK.st none rfl rfl (sf_stV (l' := [.full (([] : (List (List Row))).map (eL eRow))]) rfl TT.tyA_26 rfl rfl rfl rfl rfl rfl (by simp) rfl ?_)
        refine xz 3 (pI (6)) ?_
        refine QW.ret zL (blR (thR (thR (blR (thR ?_)))))
        obtain rfl := sG h
        exact Ends.more (.inr rfl) rfl (ps := [.agg [.full (([] : (List (List Row))).map (eL eRow))], pI (6)]) (And.intro (ResIs.cell rfl rfl TT.tyA_26 ⟨⟨by simp, by simp⟩, rfl⟩) (And.intro (ResIs.tmp rfl) trivial)) rfl rfl
      · replace h := bGF h hb_29
        refine QW.skip zL (blN (nrm ?_))
        refine rG ?_
        refine xm 50 (pI v11) ?_
        obtain ⟨c_30, h⟩ := gG h
        refine xs 51 rfl (sf_add (a := v11) (b := (1 : Int)) rfl rfl rfl c_30 ?_)
        refine xz 11 (pI (v11 + (1 : Int))) ?_
        exact ⟨k_22, by omega, ⟨tab [(2, .vptr 0 0), (5, .vptr 1 0), (10, .d (.slice (v10_2.map eRow))), (11, pI (v11 + (1 : Int)))], tabH [.var [.full (([] : (List (List Row))).map (eL eRow))], .var [.own 2 (v5_0_4.map (eL eRow))], .spare 1 v5_0_4.length], 3, []⟩, View.mk 3 [0, 1, 2] _ _ _ rfl rfl (by decide) (iC (iC (iC (iC trivial)))) (And.intro rfl (And.intro rfl (And.intro rfl trivial))) rfl zL rfl, v10_2, (v11 + (1 : Int)), v5_0_4, by omega, jG h, rfl⟩
    · replace h := bGF h hb_23
      refine QW.exit zL (thX (thX (exE (nrm ?_))))
      refine sR ?_
      refine xs 64 rfl (sf_ldV (v := .agg [.own 2 (v5_0_4.map (eL eRow))]) rfl TT.tyA_26 rfl rfl ⟨⟨by simp, by simp⟩, rfl⟩ ?_)
      refine XK.st none rfl rfl (sf_stV (l' := [.own 2 (v5_0_4.map (eL eRow))]) rfl TT.tyA_26 rfl rfl rfl rfl rfl rfl (by simp) rfl ?_)
      refine xz 3 (pI (0)) ?_
      refine QW.ret zL ?_
      obtain rfl := sG h
      exact Ends.more (.inr rfl) rfl (ps := [.agg [.own 2 (v5_0_4.map (eL eRow))], pI (0)]) (And.intro (ResIs.cell rfl rfl TT.tyA_26 ⟨⟨by simp, by simp⟩, rfl⟩) (And.intro (ResIs.tmp rfl) trivial)) rfl rfl
end Go.Proofs.Ythpgedneniekmaa.K
