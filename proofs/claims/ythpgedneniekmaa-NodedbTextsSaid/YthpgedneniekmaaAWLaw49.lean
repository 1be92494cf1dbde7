/- Package nodedb, layer 49: what they reckon. -/
import Derived.Test.YthpgedneniekmaaAWR03
import Derived.KernelRfl
namespace Go.Proofs.Ythpgedneniekmaa.K
open Go Go.RowKit
set_option linter.unusedSimpArgs false
set_option linter.unusedVariables false
set_option maxRecDepth 20000
set_option maxHeartbeats 4000000
namespace TT
theorem bldA_28 : bldA Try.prog 28 = some ([Value.slice none 0 0], .inl [(0, 1)]) := by kernel_rfl
theorem enters_10 : entersB Try.prog 10 = true := by kernel_rfl
theorem enters_11 : entersB Try.prog 11 = true := by kernel_rfl
theorem enters_12 : entersB Try.prog 12 = true := by kernel_rfl
theorem enters_13 : entersB Try.prog 13 = true := by kernel_rfl
theorem enters_14 : entersB Try.prog 14 = true := by kernel_rfl
theorem enters_15 : entersB Try.prog 15 = true := by kernel_rfl
theorem enters_16 : entersB Try.prog 16 = true := by kernel_rfl
theorem enters_19 : entersB Try.prog 19 = true := by kernel_rfl
theorem enters_22 : entersB Try.prog 22 = true := by kernel_rfl
theorem enters_23 : entersB Try.prog 23 = true := by kernel_rfl
theorem enters_4 : entersB Try.prog 4 = true := by kernel_rfl
theorem enters_5 : entersB Try.prog 5 = true := by kernel_rfl
theorem enters_6 : entersB Try.prog 6 = true := by kernel_rfl
theorem enters_7 : entersB Try.prog 7 = true := by kernel_rfl
theorem enters_8 : entersB Try.prog 8 = true := by kernel_rfl
theorem fldA_28_0 : fldA Try.prog 28 0 = some (0, 1, true) := by kernel_rfl
theorem fldA_30_1 : fldA Try.prog 30 1 = some (1, 1, false) := by kernel_rfl
theorem fldA_30_2 : fldA Try.prog 30 2 = some (2, 1, false) := by kernel_rfl
theorem res_11 : Try.f11.results.toList = [.cell 4 28, .tmp 5] := rfl
theorem res_12 : Try.f12.results.toList = [.tmp 4, .tmp 5] := rfl
theorem res_13 : Try.f13.results.toList = [.tmp 2, .tmp 3] := rfl
theorem res_14 : Try.f14.results.toList = [.tmp 4] := rfl
theorem res_3 : Try.f3.results.toList = [.tmp 4] := rfl
theorem res_4 : Try.f4.results.toList = [.tmp 0] := rfl
theorem res_5 : Try.f5.results.toList = [.cell 6 28, .tmp 7] := rfl
theorem res_7 : Try.f7.results.toList = [.cell 2 28, .tmp 3] := rfl
theorem slcA_22 : slcA Try.prog 22 = some (3, 32, true) := by kernel_rfl
theorem tyA_28 : tyA Try.prog 28 = some (true, 1) := by kernel_rfl
theorem under_22 : Program.underlying Try.prog 22 = some (.slice 30) := by kernel_rfl
theorem zeroA_28 : zeroA Try.prog 28 = some [Value.slice none 0 0] := by kernel_rfl
end TT
theorem bld_Row_0_1_2 (v0 : (Arr 32 UInt8)) (v1 : Int) (v2 : (List UInt8)) : (buildP (some ([Value.int IntKind.u8 0, Value.int IntKind.u8 0, Value.int IntKind.u8 0, Value.int IntKind.u8 0, Value.int IntKind.u8 0, Value.int IntKind.u8 0, Value.int IntKind.u8 0, Value.int IntKind.u8 0, Value.int IntKind.u8 0, Value.int IntKind.u8 0, Value.int IntKind.u8 0, Value.int IntKind.u8 0, Value.int IntKind.u8 0, Value.int IntKind.u8 0, Value.int IntKind.u8 0, Value.int IntKind.u8 0, Value.int IntKind.u8 0, Value.int IntKind.u8 0, Value.int IntKind.u8 0, Value.int IntKind.u8 0, Value.int IntKind.u8 0, Value.int IntKind.u8 0, Value.int IntKind.u8 0, Value.int IntKind.u8 0, Value.int IntKind.u8 0, Value.int IntKind.u8 0, Value.int IntKind.u8 0, Value.int IntKind.u8 0, Value.int IntKind.u8 0, Value.int IntKind.u8 0, Value.int IntKind.u8 0, Value.int IntKind.u8 0, Value.int IntKind.i64 0, Value.string ⟨#[]⟩], .inl [(0, 32), (32, 1), (33, 1)])) [(0, .d (.agg (v0.1.map byteD))), (1, pI v1), (2, pS v2)]).2 ∧ (buildP (some ([Value.int IntKind.u8 0, Value.int IntKind.u8 0, Value.int IntKind.u8 0, Value.int IntKind.u8 0, Value.int IntKind.u8 0, Value.int IntKind.u8 0, Value.int IntKind.u8 0, Value.int IntKind.u8 0, Value.int IntKind.u8 0, Value.int IntKind.u8 0, Value.int IntKind.u8 0, Value.int IntKind.u8 0, Value.int IntKind.u8 0, Value.int IntKind.u8 0, Value.int IntKind.u8 0, Value.int IntKind.u8 0, Value.int IntKind.u8 0, Value.int IntKind.u8 0, Value.int IntKind.u8 0, Value.int IntKind.u8 0, Value.int IntKind.u8 0, Value.int IntKind.u8 0, Value.int IntKind.u8 0, Value.int IntKind.u8 0, Value.int IntKind.u8 0, Value.int IntKind.u8 0, Value.int IntKind.u8 0, Value.int IntKind.u8 0, Value.int IntKind.u8 0, Value.int IntKind.u8 0, Value.int IntKind.u8 0, Value.int IntKind.u8 0, Value.int IntKind.i64 0, Value.string ⟨#[]⟩], .inl [(0, 32), (32, 1), (33, 1)])) [(0, .d (.agg (v0.1.map byteD))), (1, pI v1), (2, pS v2)]).1 = .agg ((cRow (⟨v0, v1, v2⟩ : Row)).map .d) :=
  build_of rfl (show (fillP _ ((cRow ({ fSum := (Arr.rep 32 (0 : UInt8)), fEpoch := (0 : Int), fBody := ([] : (List UInt8)) } : Row)).map PV.d) _).2 ∧ (fillP _ ((cRow ({ fSum := (Arr.rep 32 (0 : UInt8)), fEpoch := (0 : Int), fBody := ([] : (List UInt8)) } : Row)).map PV.d) _).1 = _ from (fill_step rfl rfl (show ((v0.1.map byteD).map PV.d).length = 32 by rw [List.length_map, List.length_map, v0.2]) (by rw [List.length_map, lay_Row.len]; decide) (spl_Row_0 _ v0) (fill_step rfl rfl rfl (by rw [List.length_map, lay_Row.len]; decide) (spl_Row_1 _ v1) (fill_step rfl rfl rfl (by rw [List.length_map, lay_Row.len]; decide) (spl_Row_2 _ v2) fill_nil))))
noncomputable def g_nodedb_DB_Body (d0 : DB) (x1 : (Arr 32 UInt8)) : Option ((List UInt8) × Bool) :=
    ((g_pindex_Index_Of (d0.fIndex) x1).bind fun (x_1 : (List Row)) =>
    (bif (decide ((x_1.length : Int) = (0 : Int))) then
    some (([] : List UInt8), false)
    else
    gO (0 ≤ (0 : Int) ∧ (0 : Int) < (x_1.length : Int)) (
    some ((idx x_1 (0 : Int)).fBody, true))))
theorem sim_nodedb_DB_Body (d0 : DB) (x1 : (Arr 32 UInt8)) (r : ((List UInt8) × Bool)) (h : g_nodedb_DB_Body d0 x1 = some r) : Fun Try.prog 12 [.agg (cDB d0), .agg (x1.1.map byteD)] (.tuple [.val (sV (r.1)), .val (.bool (r.2))]) := by
  refine Fun.of_bodyQ Try.func12 rfl (by simp [Try.ntmps12]) ?_
  rw [Try.ntmps12, TT.res_12]
  refine QW.view (s' := ⟨tab [(0, .d (.agg (cDB d0))), (1, .d (.agg (x1.1.map byteD)))], tabH [], 0, []⟩) (View.init (by rfl)) zL ?_
  unfold g_nodedb_DB_Body at h
  refine sR ?_
  refine XK.fz (some 2) rfl rfl (sf_boxF (ds := cDB d0) rfl rfl rfl rfl rfl ?_)
  refine XK.fz (some 3) rfl rfl (sf_boxF (ds := x1.1.map byteD) rfl rfl rfl rfl toDs_map ?_)
  refine xa 4 (pS ([] : List UInt8)) ?_
  refine xz 5 (pB false) ?_
  refine sR ?_
  refine xs 7 rfl (sf_fldC rfl TT.fldA_28_0 (by decide) rfl ?_)
  refine xs 8 rfl (sf_ldC (d := .agg (cIndex (d0.fIndex))) rfl TT.tyA_26 rfl (⟨by simp [cDB, cIndex], rfl⟩) ?_)
  refine xs 9 rfl (sf_ldC (d := .agg (x1.1.map byteD)) rfl TT.tyA_41 rfl (ldc_all (by rw [List.length_map, x1.2])) ?_)
  obtain ⟨x_1, hx_2, h⟩ := bO h
  refine xs 10 rfl (sf_call rfl rfl TT.enters_23 rfl (sim_pindex_Index_Of (d0.fIndex) x1 _ hx_2) ?_)
  refine xz 6 (.d (.slice (x_1.map eRow))) ?_
  refine QW.seq ?_
  refine sR ?_
  refine xm 11 (.d (.slice (x_1.map eRow))) ?_
  refine xs 12 rfl (sf_lenL (en := eRow) (l := x_1) rfl TT.under_38 rfl ?_)
  refine xs 13 rfl (sf_eq (a := (x_1.length : Int)) (b := (0 : Int)) rfl rfl rfl ?_)
  refine XK.nz ?_
  refine QW.cond (t := (decide ((x_1.length : Int) = (0 : Int)))) rfl zL (fun hb_3 => ?_) (fun hb_3 => ?_)
  · replace h := bT h hb_3
    refine sR ?_
    refine xa 4 (pS ([] : List UInt8)) ?_
    refine xz 5 (pB false) ?_
    refine QW.ret zL (thR ?_)
    obtain rfl := sO h
    exact Ends.more (.inr rfl) rfl (ps := [pS ([] : List UInt8), pB false]) (And.intro (ResIs.tmp rfl) (And.intro (ResIs.tmp rfl) trivial)) rfl rfl
  · replace h := bF h hb_3
    refine QW.skip zL (nrm ?_)
    refine sR ?_
    refine xm 14 (.d (.slice (x_1.map eRow))) ?_
    obtain ⟨c_4, h⟩ := gO_get h
    refine xs 15 rfl (sf_idxA (l := x_1) (i := (0 : Int)) rfl TT.slcA_38 lay_Row rfl rfl c_4 ?_)
    refine xs 16 rfl (sf_fldC rfl TT.fldA_44_2 (by decide) rfl ?_)
    refine xs 17 rfl (sf_ldC (d := .val (sV ((idx x_1 (0 : Int)).fBody))) rfl TT.tyA_9 rfl (ldc_Row_2 _) ?_)
    refine xa 4 (pS ((idx x_1 (0 : Int)).fBody)) ?_
    refine xz 5 (pB true) ?_
    refine QW.ret zL ?_
    obtain rfl := sO h
    exact Ends.more (.inr rfl) rfl (ps := [pS ((idx x_1 (0 : Int)).fBody), pB true]) (And.intro (ResIs.tmp rfl) (And.intro (ResIs.tmp rfl) trivial)) rfl rfl
noncomputable def g_nodedb_DB_Hold (d0 : DB) (epoch1 : Int) (body2 : (List UInt8)) : Option (DB × Int) :=
    (bif (((decide (epoch1 < (0 : Int))) || (decide ((1048576 : Int) < epoch1))) || (decide ((70000 : Int) < (body2.length : Int)))) then
    some (d0, 3)
    else
    ((g_sum_Of body2).bind fun (x_2 : (Arr 32 UInt8)) =>
    ((g_nodedb_DB_Body d0 x_2).bind fun (x_4 : ((List UInt8) × Bool)) =>
    (bif (x_4.2 && (!(x_4.1 == body2))) then
    some (d0, 16)
    else
    ((g_pindex_Index_Put (d0.fIndex) (⟨x_2, epoch1, body2⟩ : Row)).bind fun (x_7 : (Index × Bool)) =>
    some ((⟨x_7.1⟩ : DB), 0))))))
theorem sim_nodedb_DB_Hold (d0 : DB) (epoch1 : Int) (body2 : (List UInt8)) (r : (DB × Int)) (h : g_nodedb_DB_Hold d0 epoch1 body2 = some r) : Fun Try.prog 5 [.agg (cDB d0), .val (.int .i64 epoch1), .val (sV body2)] (.tuple [.agg (cDB (r.1)), .val (.int .i64 (r.2))]) := by
  refine Fun.of_bodyQ Try.func5 rfl (by simp [Try.ntmps5]) ?_
  rw [Try.ntmps5, TT.res_5]
  refine QW.view (s' := ⟨tab [(0, .d (.agg (cDB d0))), (1, pI epoch1), (2, pS body2)], tabH [], 0, []⟩) (View.init (by rfl)) zL ?_
  unfold g_nodedb_DB_Hold at h
  refine sR ?_
  refine XK.fz (some 3) rfl rfl (sf_boxF (ds := cDB d0) rfl rfl rfl rfl rfl ?_)
  refine xs 6 rfl (sf_alloc (l := [.full (([] : (List (List Row))).map (eL eRow))]) rfl TT.zeroA_28 rfl rfl ?_)
  refine xz 7 (pI (0)) ?_
  refine QW.seq ?_
  refine sR ?_
  refine xm 13 (pI epoch1) ?_
  refine xs 14 rfl (sf_lss (a := epoch1) (b := (0 : Int)) rfl rfl rfl ?_)
  refine xm 15 (pB (decide (epoch1 < (0 : Int)))) ?_
  refine xg 16 (pI epoch1) rfl rfl (fun hg => sf_move (v := pI epoch1) rfl rfl g3) ?_
  refine xg 17 (pB (decide ((1048576 : Int) < epoch1))) rfl rfl (fun hg => sf_gtr (a := epoch1) (b := (1048576 : Int)) rfl rfl rfl g3) ?_
  refine xs 18 rfl (sf_pickO rfl rfl rfl rfl (fun _ => rfl) (fun hb => by rw [hb]; rfl) ?_)
  refine xm 19 (pB ((decide (epoch1 < (0 : Int))) || (decide ((1048576 : Int) < epoch1)))) ?_
  refine xg 20 (pS body2) rfl rfl (fun hg => sf_move (v := pS body2) rfl rfl g3) ?_
  refine xg 21 (pI (body2.length : Int)) rfl rfl (fun hg => sf_lenS (l := body2) rfl TT.under_9 rfl g3) ?_
  refine xg 22 (pB (decide ((70000 : Int) < (body2.length : Int)))) rfl rfl (fun hg => sf_gtr (a := (body2.length : Int)) (b := (70000 : Int)) rfl rfl rfl g3) ?_
  refine xs 23 rfl (sf_pickO rfl rfl rfl rfl (fun _ => rfl) (fun hb => by rw [hb]; rfl) ?_)
  refine XK.nz ?_
  refine QW.cond (t := (((decide (epoch1 < (0 : Int))) || (decide ((1048576 : Int) < epoch1))) || (decide ((70000 : Int) < (body2.length : Int))))) rfl zL (fun hb_1 => ?_) (fun hb_1 => ?_)
  · replace h := bT h hb_1
    refine sR ?_
    refine xs 24 rfl (sf_ldC (d := .agg (cDB d0)) rfl TT.tyA_28 rfl (⟨by simp [cDB, cIndex], rfl⟩) ?_)
    refine XK.st none rfl rfl (sf_stV (l' := [.d (.slice (((d0.fIndex).fpages).map (eL eRow)))]) rfl TT.tyA_28 rfl rfl rfl rfl rfl rfl (by simp) rfl ?_)
    refine xz 7 (pI (3)) ?_
    refine QW.ret zL (thR ?_)
    obtain rfl := sO h
    exact Ends.more (.inr rfl) rfl (ps := [.agg [.d (.slice (((d0.fIndex).fpages).map (eL eRow)))], pI (3)]) (And.intro (ResIs.cell rfl rfl TT.tyA_28 ⟨⟨by simp, by simp⟩, rfl⟩) (And.intro (ResIs.tmp rfl) trivial)) rfl rfl
  · replace h := bF h hb_1
    refine QW.skip zL (nrm ?_)
    refine sR ?_
    refine xm 25 (pS body2) ?_
    obtain ⟨x_2, hx_3, h⟩ := bO h
    refine xs 26 rfl (sf_call rfl rfl TT.enters_15 rfl (sim_sum_Of body2 _ hx_3) ?_)
    refine xm 27 (pI epoch1) ?_
    refine xm 28 (pS body2) ?_
    refine XK.as (some 29) rfl rfl (sf_bld (v := .agg ((cRow (⟨x_2, epoch1, body2⟩ : Row)).map .d)) rfl TT.bldA_44 (bld_Row_0_1_2 x_2 epoch1 body2) ⟨.d (.agg (cRow (⟨x_2, epoch1, body2⟩ : Row))), imp_arr, ?_⟩)
    refine xs 8 rfl (sf_alloc (l := ((cRow (⟨(Arr.rep 32 (0 : UInt8)), (0 : Int), ([] : (List UInt8))⟩ : Row)).map .d)) rfl TT.zeroA_44 rfl rfl ?_)
    refine XK.st none rfl rfl (sf_stV (l' := ((cRow (⟨x_2, epoch1, body2⟩ : Row)).map .d)) rfl TT.tyA_44 rfl rfl rfl rfl rfl (len_dd (lay_Row.len _)) (le_dd (lay_Row.len _)) (spl_dd ((lay_Row.len _).trans (lay_Row.len _).symm)) ?_)
    refine XK.nz ?_
    refine QW.seq ?_
    refine sR ?_
    refine xs 31 rfl (sf_ldC (d := .agg (cDB d0)) rfl TT.tyA_28 rfl (⟨by simp [cDB, cIndex], rfl⟩) ?_)
    refine xs 32 rfl (sf_fldV rfl TT.fldA_44_0 (by decide) rfl ?_)
    refine XK.as (some 33) rfl rfl (sf_ldV rfl TT.tyA_41 rfl rfl (ldv_ldcA (ldc_Row_0 _) (by rw [lay_Row.len]; decide) (by decide)) ⟨.d (.agg (x_2.1.map byteD)), imp_arr, ?_⟩)
    obtain ⟨x_4, hx_5, h⟩ := bO h
    refine xs 34 rfl (sf_call rfl rfl TT.enters_12 rfl (sim_nodedb_DB_Body d0 x_2 _ hx_5) ?_)
    refine xm 30 (.d (.tuple [.val (sV (x_4.1)), .val (.bool (x_4.2))])) ?_
    refine xs 35 rfl (sf_extract rfl rfl rfl ?_)
    refine xs 36 rfl (sf_extract rfl rfl rfl ?_)
    refine xa 9 (pS (x_4.1)) ?_
    refine xz 10 (pB (x_4.2)) ?_
    refine QW.seq ?_
    refine QW.view (s' := ⟨tab [(2, pS body2), (3, .d (.cptr (cDB d0))), (6, .vptr 0 0), (8, .vptr 1 0), (9, pS (x_4.1)), (10, pB (x_4.2))], tabH [.var [.full (([] : (List (List Row))).map (eL eRow))], .var ((cRow (⟨x_2, epoch1, body2⟩ : Row)).map .d)], 2, []⟩) (View.mk 2 [0, 1] _ _ _ rfl rfl (by decide) (iC (iC (iC (iC (iC (iC trivial)))))) (And.intro rfl (And.intro (by simp only [atH1, rowC, PV.res_d]; rfl) trivial)) rfl zL rfl) zL ?_
    refine rG ?_
    refine xm 37 (pB (x_4.2)) ?_
    refine xm 38 (pB (x_4.2)) ?_
    refine xg 39 (pS (x_4.1)) rfl rfl (fun hg => sf_move (v := pS (x_4.1)) rfl rfl g3) ?_
    refine xg 40 (pS body2) rfl rfl (fun hg => sf_move (v := pS body2) rfl rfl g3) ?_
    refine xg 41 (pB (!(x_4.1 == body2))) rfl rfl (fun hg => sf_sne (a := x_4.1) (b := body2) rfl rfl rfl g3) ?_
    refine xs 42 rfl (sf_pickA rfl rfl rfl rfl (fun hb => by rw [hb]; rfl) (fun _ => rfl) ?_)
    refine XK.nz ?_
    refine QW.cond (t := (x_4.2 && (!(x_4.1 == body2)))) rfl zL (fun hb_6 => ?_) (fun hb_6 => ?_)
    · replace h := bT h hb_6
      refine sR ?_
      refine xs 43 rfl (sf_ldC (d := .agg (cDB d0)) rfl TT.tyA_28 rfl (⟨by simp [cDB, cIndex], rfl⟩) ?_)
      refine XK.st none rfl rfl (sf_stV (l' := [.d (.slice (((d0.fIndex).fpages).map (eL eRow)))]) rfl TT.tyA_28 rfl rfl rfl rfl rfl rfl (by simp) rfl ?_)
      refine xz 7 (pI (16)) ?_
      refine QW.ret zL (thR ?_)
      obtain rfl := sO h
      exact Ends.more (.inr rfl) rfl (ps := [.agg [.d (.slice (((d0.fIndex).fpages).map (eL eRow)))], pI (16)]) (And.intro (ResIs.cell rfl rfl TT.tyA_28 ⟨⟨by simp, by simp⟩, rfl⟩) (And.intro (ResIs.tmp rfl) trivial)) rfl rfl
    · replace h := bF h hb_6
      refine QW.skip zL (nrm ?_)
      refine sR ?_
      refine xs 45 rfl (sf_fldC rfl TT.fldA_28_0 (by decide) rfl ?_)
      refine xs 46 rfl (sf_ldC (d := .agg (cIndex (d0.fIndex))) rfl TT.tyA_26 rfl (⟨by simp [cDB, cIndex], rfl⟩) ?_)
      refine XK.as (some 47) rfl rfl (sf_ldV (v := .agg ((cRow (⟨x_2, epoch1, body2⟩ : Row)).map .d)) rfl TT.tyA_44 rfl rfl (ldv_dd (lay_Row.len _) (by decide)) ⟨.d (.agg (cRow (⟨x_2, epoch1, body2⟩ : Row))), imp_arr, ?_⟩)
      obtain ⟨x_7, hx_8, h⟩ := bO h
      refine xs 48 rfl (sf_call rfl rfl TT.enters_16 rfl (sim_pindex_Index_Put (d0.fIndex) (⟨x_2, epoch1, body2⟩ : Row) _ hx_8) ?_)
      refine xm 44 (.d (.tuple [.agg (cIndex (x_7.1)), .val (.bool (x_7.2))])) ?_
      refine xs 49 rfl (sf_extract rfl rfl rfl ?_)
      refine xs 50 rfl (sf_extract rfl rfl rfl ?_)
      refine xs 11 rfl (sf_alloc (l := [.full (([] : (List (List Row))).map (eL eRow))]) rfl TT.zeroA_26 rfl rfl ?_)
      refine XK.st none rfl rfl (sf_stV (l' := [.d (.slice (((x_7.1).fpages).map (eL eRow)))]) rfl TT.tyA_26 rfl rfl rfl rfl rfl rfl (by simp) rfl ?_)
      refine xz 12 (pB (x_7.2)) ?_
      refine sR ?_
      refine XK.as (some 51) rfl rfl (sf_ldV (v := .agg [.d (.slice (((x_7.1).fpages).map (eL eRow)))]) rfl TT.tyA_26 rfl rfl ⟨⟨by simp, by simp⟩, rfl⟩ ⟨.d (.agg (cIndex (x_7.1))), (Imp.toD rfl), ?_⟩)
      refine xs 52 rfl (sf_bld (v := .agg [.d (.slice (((x_7.1).fpages).map (eL eRow)))]) rfl TT.bldA_28 (build_of rfl (fill_step (cells' := [.d (.slice (((x_7.1).fpages).map (eL eRow)))]) rfl rfl rfl bL rfl fill_nil)) ?_)
      refine XK.st none rfl rfl (sf_stV (l' := [.d (.slice (((x_7.1).fpages).map (eL eRow)))]) rfl TT.tyA_28 rfl rfl rfl rfl rfl rfl (by simp) rfl ?_)
      refine xz 7 (pI (0)) ?_
      refine QW.ret zL ?_
      obtain rfl := sO h
      exact Ends.more (.inr rfl) rfl (ps := [.agg [.d (.slice (((x_7.1).fpages).map (eL eRow)))], pI (0)]) (And.intro (ResIs.cell rfl rfl TT.tyA_28 ⟨⟨by simp, by simp⟩, rfl⟩) (And.intro (ResIs.tmp rfl) trivial)) rfl rfl
inductive C_nodedb_DB_Size where
  | S
  | L1 (v4_2 : Int) (v5_2 : Int) (v11_2 : (List Row)) (v12_2 : Int) (v13 : Int) (v6 : (Arr 32 UInt8))
noncomputable def step_nodedb_DB_Size (d0 : DB) : C_nodedb_DB_Size → Option (C_nodedb_DB_Size ⊕ (Int × Int))
  | .S =>
    ((g_pindex_Index_All (d0.fIndex)).bind fun (x_1 : (List Row)) =>
    some (.inl (.L1 (0) (0) x_1 (x_1.length : Int) (0) (Arr.rep 32 (0 : UInt8)))))
  | .L1 v4_2 v5_2 v11_2 v12_2 v13 v6 =>
    (bif (decide (v13 < v12_2)) then
    gO (0 ≤ v13 ∧ v13 < (v11_2.length : Int)) (
    (((bif ((decide (v4_2 = (0 : Int))) || (!(((idx v11_2 v13).fSum).1 == v6.1))) then
    gO (inI (v4_2 + (1 : Int))) (
    gO (inI (v5_2 + (((idx v11_2 v13).fBody).length : Int))) (
    some ((v4_2 + (1 : Int)), (v5_2 + (((idx v11_2 v13).fBody).length : Int)))))
    else
    some (v4_2, v5_2)) : Option (Int × Int)).bind fun (v4_5, v5_5) =>
    gO (inI (v13 + (1 : Int))) (
    some (.inl (.L1 v4_5 v5_5 v11_2 v12_2 (v13 + (1 : Int)) ((idx v11_2 v13).fSum))))))
    else
    some (.inr (v4_2, v5_2)))
noncomputable def g_nodedb_DB_Size (d0 : DB) : Option (Int × Int) := theC (step_nodedb_DB_Size d0) .S
theorem sim_nodedb_DB_Size (d0 : DB) (r : (Int × Int)) (h : g_nodedb_DB_Size d0 = some r) : Fun Try.prog 13 [.agg (cDB d0)] (.tuple [.val (.int .i64 (r.1)), .val (.int .i64 (r.2))]) := by
  refine Fun.of_bodyQ Try.func13 rfl (by simp [Try.ntmps13]) ?_
  rw [Try.ntmps13, TT.res_13]
  refine QW.view (s' := ⟨tab [(0, .d (.agg (cDB d0)))], tabH [], 0, []⟩) (View.init (by rfl)) zL ?_
  replace h := theC_get h
  obtain ⟨_, h⟩ := h
  obtain ⟨k_0, rfl, h9⟩ := run_succ h; replace h := h9; clear h9; rw [step_nodedb_DB_Size] at h
  refine sR ?_
  refine XK.fz (some 1) rfl rfl (sf_boxF (ds := cDB d0) rfl rfl rfl rfl rfl ?_)
  refine xa 2 (pI (0)) ?_
  refine xz 3 (pI (0)) ?_
  refine sR ?_
  refine xa 4 (pI (0)) ?_
  refine xz 5 (pI (0)) ?_
  refine sR ?_
  refine xs 6 rfl (sf_alloc (l := (((Arr.rep 32 (0 : UInt8)).1.map byteD).map .d)) rfl TT.zeroA_41 rfl rfl ?_)
  refine XK.nz ?_
  refine QW.seq ?_
  refine sR ?_
  refine xs 9 rfl (sf_fldC rfl TT.fldA_28_0 (by decide) rfl ?_)
  refine xs 10 rfl (sf_ldC (d := .agg (cIndex (d0.fIndex))) rfl TT.tyA_26 rfl (⟨by simp [cDB, cIndex], rfl⟩) ?_)
  obtain ⟨x_1, hx_2, h⟩ := bG h
  refine xs 11 rfl (sf_call rfl rfl TT.enters_9 rfl (sim_pindex_Index_All (d0.fIndex) _ hx_2) ?_)
  refine xs 12 rfl (sf_lenL (en := eRow) (l := x_1) rfl TT.under_38 rfl ?_)
  refine xm 13 (pI (0)) ?_
  refine XK.nz ?_
  refine QW.block ?_
  refine QW.loop (fun k σ => ∃ v4_2 : Int, ∃ v5_2 : Int, ∃ v11_2 : (List Row), ∃ v12_2 : Int, ∃ v13 : Int, ∃ v6 : (Arr 32 UInt8), k ≤ k_0 ∧ run (step_nodedb_DB_Size d0) k (.L1 v4_2 v5_2 v11_2 v12_2 v13 v6) = some r ∧ σ = ⟨tab [(4, pI v4_2), (5, pI v5_2), (6, .vptr 0 0), (11, .d (.slice (v11_2.map eRow))), (12, pI v12_2), (13, pI v13)], tabH [.var ((v6.1.map byteD).map .d)], 1, []⟩) k_0 zL ⟨⟨tab [(4, pI (0)), (5, pI (0)), (6, .vptr 0 0), (11, .d (.slice (x_1.map eRow))), (12, pI (x_1.length : Int)), (13, pI (0))], tabH [.var (((Arr.rep 32 (0 : UInt8)).1.map byteD).map .d)], 1, []⟩, View.mk 1 [0] _ _ _ rfl rfl (by decide) (iC (iC (iC (iC (iC (iC trivial)))))) (And.intro (by simp only [atH1, rowC, PV.res_d]; rfl) trivial) rfl zL rfl, 0, 0, x_1, (x_1.length : Int), 0, (Arr.rep 32 (0 : UInt8)), Nat.le_refl _, jG h, rfl⟩ ?_
  rintro k_3s _ ⟨v4_2, v5_2, v11_2, v12_2, v13, v6, k_3h, h, rfl⟩
  obtain ⟨k_3, rfl, h9⟩ := run_succ h; replace h := h9; clear h9; rw [step_nodedb_DB_Size] at h
  refine sR ?_
  refine xs 14 rfl (sf_lss (a := v13) (b := v12_2) rfl rfl rfl ?_)
  refine XK.nz ?_
  refine QW.seq ?_
  refine QW.cond (t := (decide (v13 < v12_2))) rfl zL (fun hb_4 => ?_) (fun hb_4 => ?_)
  · replace h := bGT h hb_4
    refine QW.skip zL (nrm ?_)
    refine QW.seq ?_
    refine QW.block ?_
    refine sR ?_
    obtain ⟨c_5, h⟩ := gG h
    refine xs 15 rfl (sf_idxA (l := v11_2) (i := v13) rfl TT.slcA_38 lay_Row rfl rfl c_5 ?_)
    refine xs 16 rfl (sf_ldC (d := .agg (cRow (idx v11_2 v13))) rfl TT.tyA_44 rfl (⟨by rw [lay_Row.len]; decide, congrArg D.agg (List.take_of_length_le (by rw [lay_Row.len]; decide))⟩) ?_)
    refine xs 8 rfl (sf_alloc (l := ((cRow (⟨(Arr.rep 32 (0 : UInt8)), (0 : Int), ([] : (List UInt8))⟩ : Row)).map .d)) rfl TT.zeroA_44 rfl rfl ?_)
    refine XK.st none rfl rfl (sf_stV (l' := ((cRow (idx v11_2 v13)).map .d)) rfl TT.tyA_44 rfl rfl rfl rfl rfl (len_dd (lay_Row.len _)) (le_dd (lay_Row.len _)) (spl_dd ((lay_Row.len _).trans (lay_Row.len _).symm)) ?_)
    refine XK.nz ?_
    obtain ⟨⟨v4_5, v5_5⟩, hq, h⟩ := bG h
    refine QW.seqI (fun s' => s' = ⟨tab [(4, pI v4_5), (5, pI v5_5), (6, .vptr 0 0), (8, .vptr 1 0), (11, .d (.slice (v11_2.map eRow))), (12, pI v12_2), (13, pI v13)], tabH [.var ((v6.1.map byteD).map .d), .var ((cRow (idx v11_2 v13)).map .d)], 2, []⟩) ?_ ?_
    · replace h := hq; clear hq
      refine sR ?_
      refine xm 17 (pI v4_2) ?_
      refine xs 18 rfl (sf_eq (a := v4_2) (b := (0 : Int)) rfl rfl rfl ?_)
      refine xm 19 (pB (decide (v4_2 = (0 : Int)))) ?_
      refine xg 20 (.vptr 1 0) rfl rfl (fun hg => sf_fldV rfl TT.fldA_44_0 (by decide) rfl g3) ?_
      refine XK.gd (v := .d (.agg (((idx v11_2 v13).fSum).1.map byteD))) (T := [1]) (some 21) rfl rfl (by repeat (first | exact trivial | refine ⟨fun q => by first | rfl | exact q | exact cda q | exact cdb q, ?_⟩)) (fun hg => sf_ldV rfl TT.tyA_41 rfl rfl (ldv_ldcA (ldc_Row_0 _) (by rw [lay_Row.len]; decide) (by decide)) ⟨⟨rfl, rfl, rfl⟩, rfl, imp_arr⟩) (fun _ i hi => by simp only [List.mem_singleton] at hi; subst hi; decide) ?_
      refine XK.gd (v := .d (.agg (v6.1.map byteD))) (T := [0]) (some 22) rfl rfl (by repeat (first | exact trivial | refine ⟨fun q => by first | rfl | exact q | exact cda q | exact cdb q, ?_⟩)) (fun hg => sf_ldV (v := .agg ((v6.1.map byteD).map .d)) rfl TT.tyA_41 rfl rfl (ldv_all (by decide)) ⟨⟨rfl, rfl, rfl⟩, rfl, imp_arr⟩) (fun _ i hi => by simp only [List.mem_singleton] at hi; subst hi; decide) ?_
      refine xg 23 (pB (!(((idx v11_2 v13).fSum).1 == v6.1))) rfl rfl (fun hg => sf_arrne (p := (idx v11_2 v13).fSum) (q := v6) rfl TT.arrB_41_32 rfl rfl g3) ?_
      refine xs 24 rfl (sf_pickO rfl rfl rfl rfl (fun _ => rfl) (fun hb => by rw [hb]; rfl) ?_)
      refine XK.nz ?_
      refine QW.cond (t := ((decide (v4_2 = (0 : Int))) || (!(((idx v11_2 v13).fSum).1 == v6.1)))) rfl zL (fun hb_6 => ?_) (fun hb_6 => ?_)
      · replace h := bT h hb_6
        refine sR ?_
        refine xm 25 (pI v4_2) ?_
        obtain ⟨c_7, h⟩ := gO_get h
        refine xs 26 rfl (sf_add (a := v4_2) (b := (1 : Int)) rfl rfl rfl c_7 ?_)
        refine xz 4 (pI (v4_2 + (1 : Int))) ?_
        refine rG ?_
        refine xm 27 (pI v5_2) ?_
        refine xs 28 rfl (sf_fldV rfl TT.fldA_44_2 (by decide) rfl ?_)
        refine xs 29 rfl (sf_ldV (v := pS ((idx v11_2 v13).fBody)) rfl TT.tyA_9 rfl rfl (ldv_ldc (ldc_Row_2 _) (by rw [lay_Row.len]; decide) (by decide)) ?_)
        refine xs 30 rfl (sf_lenS (l := (idx v11_2 v13).fBody) rfl TT.under_9 rfl ?_)
        obtain ⟨c_8, h⟩ := gO_get h
        refine xs 31 rfl (sf_add (a := v5_2) (b := (((idx v11_2 v13).fBody).length : Int)) rfl rfl rfl c_8 ?_)
        refine xz 5 (pI (v5_2 + (((idx v11_2 v13).fBody).length : Int))) ?_
        simp only [Option.some.injEq, Prod.mk.injEq] at h
        obtain ⟨rfl, rfl⟩ := h
        exact ⟨⟨tab [(4, pI (v4_2 + (1 : Int))), (5, pI (v5_2 + (((idx v11_2 v13).fBody).length : Int))), (6, .vptr 0 0), (8, .vptr 1 0), (11, .d (.slice (v11_2.map eRow))), (12, pI v12_2), (13, pI v13)], tabH [.var ((v6.1.map byteD).map .d), .var ((cRow (idx v11_2 v13)).map .d)], 2, []⟩, View.mk 2 [0, 1] _ _ _ rfl rfl (by decide) (iC (iC (iC (iC (iC (iC (iC trivial))))))) (And.intro (by simp only [atH1, rowC, PV.res_d]; rfl) (And.intro (by simp only [atH1, rowC, PV.res_d]; rfl) trivial)) rfl zL rfl, rfl⟩
      · replace h := bF h hb_6
        refine QW.skip zL (nrm ?_)
        simp only [Option.some.injEq, Prod.mk.injEq] at h
        obtain ⟨rfl, rfl⟩ := h
        exact ⟨⟨tab [(4, pI v4_2), (5, pI v5_2), (6, .vptr 0 0), (8, .vptr 1 0), (11, .d (.slice (v11_2.map eRow))), (12, pI v12_2), (13, pI v13)], tabH [.var ((v6.1.map byteD).map .d), .var ((cRow (idx v11_2 v13)).map .d)], 2, []⟩, View.mk 2 [0, 1] _ _ _ rfl rfl (by decide) (iC (iC (iC (iC (iC (iC (iC trivial))))))) (And.intro (by simp only [atH1, rowC, PV.res_d]; rfl) (And.intro (by simp only [atH1, rowC, PV.res_d]; rfl) trivial)) rfl zL rfl, rfl⟩
    · rintro _ rfl
      refine rG ?_
      refine xs 32 rfl (sf_fldV rfl TT.fldA_44_0 (by decide) rfl ?_)
      refine XK.as (some 33) rfl rfl (sf_ldV rfl TT.tyA_41 rfl rfl (ldv_ldcA (ldc_Row_0 _) (by rw [lay_Row.len]; decide) (by decide)) ⟨.d (.agg (((idx v11_2 v13).fSum).1.map byteD)), imp_arr, ?_⟩)
      refine XK.st none rfl rfl (sf_stV (l' := ((((idx v11_2 v13).fSum).1.map byteD).map .d)) rfl TT.tyA_41 rfl rfl rfl rfl rfl (len_map2 _) (le_map2 _) (spl_same ((len_map2 _).trans (len_map2 _).symm)) ?_)
      refine XK.nil (blN (nrm ?_))
      refine rG ?_
      obtain ⟨c_9, h⟩ := gG h
      refine xs 34 rfl (sf_add (a := v13) (b := (1 : Int)) rfl rfl rfl c_9 ?_)
      refine xm 13 (pI (v13 + (1 : Int))) ?_
      refine XK.nz ?_
      exact ⟨k_3, by omega, ⟨tab [(4, pI v4_5), (5, pI v5_5), (6, .vptr 0 0), (11, .d (.slice (v11_2.map eRow))), (12, pI v12_2), (13, pI (v13 + (1 : Int)))], tabH [.var ((((idx v11_2 v13).fSum).1.map byteD).map .d)], 1, []⟩, View.mk 1 [0] _ _ _ rfl rfl (by decide) (iC (iC (iC (iC (iC (iC trivial)))))) (And.intro (by simp only [atH1, rowC, PV.res_d]; rfl) trivial) rfl zL rfl, v4_5, v5_5, v11_2, v12_2, (v13 + (1 : Int)), (idx v11_2 v13).fSum, by omega, jG h, rfl⟩
  · replace h := bGF h hb_4
    refine QW.exit zL (thX (thX (exE (nrm ?_))))
    refine sR ?_
    refine xm 35 (pI v4_2) ?_
    refine xm 36 (pI v5_2) ?_
    refine xa 2 (pI v4_2) ?_
    refine xz 3 (pI v5_2) ?_
    refine QW.ret zL ?_
    obtain rfl := sG h
    exact Ends.more (.inr rfl) rfl (ps := [pI v4_2, pI v5_2]) (And.intro (ResIs.tmp rfl) (And.intro (ResIs.tmp rfl) trivial)) rfl rfl
inductive C_nodedb_DB_Forget where
  | S
  | L1 (v6_2 : Int) (v23_2 : (List Row)) (v24_2 : Int) (v25 : Int) (v8_0 : (List (List Row)))
noncomputable def step_nodedb_DB_Forget (d0 : DB) (epoch1 : Int) : C_nodedb_DB_Forget → Option (C_nodedb_DB_Forget ⊕ (DB × Int))
  | .S =>
    ((g_nodedb_DB_Size d0).bind fun (x_1 : (Int × Int)) =>
    ((g_pindex_Index_All (d0.fIndex)).bind fun (x_3 : (List Row)) =>
    some (.inl (.L1 (x_1.1) x_3 (x_3.length : Int) (0) ((d0.fIndex).fpages)))))
  | .L1 v6_2 v23_2 v24_2 v25 v8_0 =>
    (bif (decide (v25 < v24_2)) then
    gO (0 ≤ v25 ∧ v25 < (v23_2.length : Int)) (
    (bif (decide (((idx v23_2 v25).fEpoch) = epoch1)) then
    ((g_pindex_Index_Drop (⟨v8_0⟩ : Index) ((idx v23_2 v25).fSum) epoch1).bind fun (x_9 : (Index × Bool)) =>
    gO (inI (v25 + (1 : Int))) (
    some (.inl (.L1 v6_2 v23_2 v24_2 (v25 + (1 : Int)) ((x_9.1).fpages)))))
    else
    gO (inI (v25 + (1 : Int))) (
    some (.inl (.L1 v6_2 v23_2 v24_2 (v25 + (1 : Int)) v8_0)))))
    else
    ((g_nodedb_DB_Size (⟨(⟨v8_0⟩ : Index)⟩ : DB)).bind fun (x_13 : (Int × Int)) =>
    gO (inI (v6_2 - (x_13.1))) (
    some (.inr ((⟨(⟨v8_0⟩ : Index)⟩ : DB), (v6_2 - (x_13.1)))))))
noncomputable def g_nodedb_DB_Forget (d0 : DB) (epoch1 : Int) : Option (DB × Int) := theC (step_nodedb_DB_Forget d0 epoch1) .S
theorem sim_nodedb_DB_Forget (d0 : DB) (epoch1 : Int) (r : (DB × Int)) (h : g_nodedb_DB_Forget d0 epoch1 = some r) : Fun Try.prog 11 [.agg (cDB d0), .val (.int .i64 epoch1)] (.tuple [.agg (cDB (r.1)), .val (.int .i64 (r.2))]) := by
  refine Fun.of_bodyQ Try.func11 rfl (by simp [Try.ntmps11]) ?_
  rw [Try.ntmps11, TT.res_11]
  refine QW.view (s' := ⟨tab [(0, .d (.agg (cDB d0))), (1, pI epoch1)], tabH [], 0, []⟩) (View.init (by rfl)) zL ?_
  replace h := theC_get h
  obtain ⟨_, h⟩ := h
  obtain ⟨k_0, rfl, h9⟩ := run_succ h; replace h := h9; clear h9; rw [step_nodedb_DB_Forget] at h
  refine sR ?_
  refine XK.fz (some 2) rfl rfl (sf_boxF (ds := cDB d0) rfl rfl rfl rfl rfl ?_)
  refine xs 4 rfl (sf_alloc (l := [.full (([] : (List (List Row))).map (eL eRow))]) rfl TT.zeroA_28 rfl rfl ?_)
  refine xz 5 (pI (0)) ?_
  refine sR ?_
  refine xs 16 rfl (sf_ldC (d := .agg (cDB d0)) rfl TT.tyA_28 rfl (⟨by simp [cDB, cIndex], rfl⟩) ?_)
  obtain ⟨x_1, hx_2, h⟩ := bG h
  refine xs 17 rfl (sf_call rfl rfl TT.enters_13 rfl (sim_nodedb_DB_Size d0 _ hx_2) ?_)
  refine xm 15 (.d (.tuple [.val (.int .i64 (x_1.1)), .val (.int .i64 (x_1.2))])) ?_
  refine xs 18 rfl (sf_extract rfl rfl rfl ?_)
  refine xs 19 rfl (sf_extract rfl rfl rfl ?_)
  refine xa 6 (pI (x_1.1)) ?_
  refine xz 7 (pI (x_1.2)) ?_
  refine sR ?_
  refine xs 20 rfl (sf_ldC (d := .agg (cDB d0)) rfl TT.tyA_28 rfl (⟨by simp [cDB, cIndex], rfl⟩) ?_)
  refine xs 8 rfl (sf_alloc (l := [.full (([] : (List (List Row))).map (eL eRow))]) rfl TT.zeroA_28 rfl rfl ?_)
  refine XK.st none rfl rfl (sf_stV (l' := [.d (.slice (((d0.fIndex).fpages).map (eL eRow)))]) rfl TT.tyA_28 rfl rfl rfl rfl rfl rfl (by simp) rfl ?_)
  refine XK.nz ?_
  refine QW.seq ?_
  refine sR ?_
  refine xs 21 rfl (sf_fldC rfl TT.fldA_28_0 (by decide) rfl ?_)
  refine xs 22 rfl (sf_ldC (d := .agg (cIndex (d0.fIndex))) rfl TT.tyA_26 rfl (⟨by simp [cDB, cIndex], rfl⟩) ?_)
  obtain ⟨x_3, hx_4, h⟩ := bG h
  refine xs 23 rfl (sf_call rfl rfl TT.enters_9 rfl (sim_pindex_Index_All (d0.fIndex) _ hx_4) ?_)
  refine xs 24 rfl (sf_lenL (en := eRow) (l := x_3) rfl TT.under_38 rfl ?_)
  refine xm 25 (pI (0)) ?_
  refine XK.nz ?_
  refine QW.block ?_
  refine QW.loop (fun k σ => ∃ v6_2 : Int, ∃ v23_2 : (List Row), ∃ v24_2 : Int, ∃ v25 : Int, ∃ v8_0 : (List (List Row)), k ≤ k_0 ∧ run (step_nodedb_DB_Forget d0 epoch1) k (.L1 v6_2 v23_2 v24_2 v25 v8_0) = some r ∧ σ = ⟨tab [(1, pI epoch1), (4, .vptr 0 0), (6, pI v6_2), (8, .vptr 1 0), (23, .d (.slice (v23_2.map eRow))), (24, pI v24_2), (25, pI v25)], tabH [.var [.full (([] : (List (List Row))).map (eL eRow))], .var [.d (.slice (v8_0.map (eL eRow)))]], 2, []⟩) k_0 zL ⟨⟨tab [(1, pI epoch1), (4, .vptr 0 0), (6, pI (x_1.1)), (8, .vptr 1 0), (23, .d (.slice (x_3.map eRow))), (24, pI (x_3.length : Int)), (25, pI (0))], tabH [.var [.full (([] : (List (List Row))).map (eL eRow))], .var [.d (.slice (((d0.fIndex).fpages).map (eL eRow)))]], 2, []⟩, View.mk 2 [0, 1] _ _ _ rfl rfl (by decide) (iC (iC (iC (iC (iC (iC (iC trivial))))))) (And.intro rfl (And.intro rfl trivial)) rfl zL rfl, x_1.1, x_3, (x_3.length : Int), 0, (d0.fIndex).fpages, Nat.le_refl _, jG h, rfl⟩ ?_
  rintro k_5s _ ⟨v6_2, v23_2, v24_2, v25, v8_0, k_5h, h, rfl⟩
  obtain ⟨k_5, rfl, h9⟩ := run_succ h; replace h := h9; clear h9; rw [step_nodedb_DB_Forget] at h
  refine sR ?_
  refine xs 26 rfl (sf_lss (a := v25) (b := v24_2) rfl rfl rfl ?_)
  refine XK.nz ?_
  refine QW.seq ?_
  refine QW.cond (t := (decide (v25 < v24_2))) rfl zL (fun hb_6 => ?_) (fun hb_6 => ?_)
  · replace h := bGT h hb_6
    refine QW.skip zL (nrm ?_)
    refine QW.seq ?_
    refine QW.block ?_
    refine sR ?_
    obtain ⟨c_7, h⟩ := gG h
    refine xs 27 rfl (sf_idxA (l := v23_2) (i := v25) rfl TT.slcA_38 lay_Row rfl rfl c_7 ?_)
    refine xs 28 rfl (sf_ldC (d := .agg (cRow (idx v23_2 v25))) rfl TT.tyA_44 rfl (⟨by rw [lay_Row.len]; decide, congrArg D.agg (List.take_of_length_le (by rw [lay_Row.len]; decide))⟩) ?_)
    refine xs 10 rfl (sf_alloc (l := ((cRow (⟨(Arr.rep 32 (0 : UInt8)), (0 : Int), ([] : (List UInt8))⟩ : Row)).map .d)) rfl TT.zeroA_44 rfl rfl ?_)
    refine XK.st none rfl rfl (sf_stV (l' := ((cRow (idx v23_2 v25)).map .d)) rfl TT.tyA_44 rfl rfl rfl rfl rfl (len_dd (lay_Row.len _)) (le_dd (lay_Row.len _)) (spl_dd ((lay_Row.len _).trans (lay_Row.len _).symm)) ?_)
    refine XK.nz ?_
    refine sR ?_
    refine xs 29 rfl (sf_fldV rfl TT.fldA_44_1 (by decide) rfl ?_)
    refine xs 30 rfl (sf_ldV (v := pI ((idx v23_2 v25).fEpoch)) rfl TT.tyA_3 rfl rfl (ldv_ldc (ldc_Row_1 _) (by rw [lay_Row.len]; decide) (by decide)) ?_)
    refine xm 31 (pI epoch1) ?_
    refine xs 32 rfl (sf_eq (a := ((idx v23_2 v25).fEpoch)) (b := epoch1) rfl rfl rfl ?_)
    refine XK.nz ?_
    refine QW.cond (t := (decide (((idx v23_2 v25).fEpoch) = epoch1))) rfl zL (fun hb_8 => ?_) (fun hb_8 => ?_)
    · replace h := bGT h hb_8
      refine sR ?_
      refine xs 34 rfl (sf_fldV rfl TT.fldA_28_0 (by decide) rfl ?_)
      refine XK.as (some 35) rfl rfl (sf_ldV (v := .agg [.d (.slice (v8_0.map (eL eRow)))]) rfl TT.tyA_26 rfl rfl ⟨⟨by simp, by simp⟩, rfl⟩ ⟨.d (.agg (cIndex (⟨v8_0⟩ : Index))), (Imp.toD rfl), ?_⟩)
      refine xs 36 rfl (sf_fldV rfl TT.fldA_44_0 (by decide) rfl ?_)
      refine XK.as (some 37) rfl rfl (sf_ldV rfl TT.tyA_41 rfl rfl (ldv_ldcA (ldc_Row_0 _) (by rw [lay_Row.len]; decide) (by decide)) ⟨.d (.agg (((idx v23_2 v25).fSum).1.map byteD)), imp_arr, ?_⟩)
      refine xm 38 (pI epoch1) ?_
      obtain ⟨x_9, hx_10, h⟩ := bG h
      refine xs 39 rfl (sf_call rfl rfl TT.enters_22 rfl (sim_pindex_Index_Drop (⟨v8_0⟩ : Index) ((idx v23_2 v25).fSum) epoch1 _ hx_10) ?_)
      refine xm 33 (.d (.tuple [.agg (cIndex (x_9.1)), .val (.bool (x_9.2))])) ?_
      refine xs 40 rfl (sf_extract rfl rfl rfl ?_)
      refine xs 41 rfl (sf_extract rfl rfl rfl ?_)
      refine xs 11 rfl (sf_alloc (l := [.full (([] : (List (List Row))).map (eL eRow))]) rfl TT.zeroA_26 rfl rfl ?_)
      refine XK.st none rfl rfl (sf_stV (l' := [.d (.slice (((x_9.1).fpages).map (eL eRow)))]) rfl TT.tyA_26 rfl rfl rfl rfl rfl rfl (by simp) rfl ?_)
      refine xz 12 (pB (x_9.2)) ?_
      refine rG ?_
      refine XK.as (some 42) rfl rfl (sf_ldV (v := .agg [.d (.slice (((x_9.1).fpages).map (eL eRow)))]) rfl TT.tyA_26 rfl rfl ⟨⟨by simp, by simp⟩, rfl⟩ ⟨.d (.agg (cIndex (x_9.1))), (Imp.toD rfl), ?_⟩)
      refine xs 43 rfl (sf_bld (v := .agg [.d (.slice (((x_9.1).fpages).map (eL eRow)))]) rfl TT.bldA_28 (build_of rfl (fill_step (cells' := [.d (.slice (((x_9.1).fpages).map (eL eRow)))]) rfl rfl rfl bL rfl fill_nil)) ?_)
      refine XK.st none rfl rfl (sf_stV (l' := [.d (.slice (((x_9.1).fpages).map (eL eRow)))]) rfl TT.tyA_28 rfl rfl rfl rfl rfl rfl (by simp) rfl ?_)
      refine XK.nil (blN (nrm ?_))
      refine QW.view (s' := ⟨tab [(1, pI epoch1), (4, .vptr 0 0), (6, pI v6_2), (8, .vptr 1 0), (23, .d (.slice (v23_2.map eRow))), (24, pI v24_2), (25, pI v25)], tabH [.var [.full (([] : (List (List Row))).map (eL eRow))], .var [.d (.slice (((x_9.1).fpages).map (eL eRow)))]], 2, []⟩) (View.mk 2 [0, 1] _ _ _ rfl rfl (by decide) (iC (iC (iC (iC (iC (iC (iC trivial))))))) (And.intro rfl (And.intro rfl trivial)) rfl zL rfl) zL ?_
      refine rG ?_
      obtain ⟨c_11, h⟩ := gG h
      refine xs 44 rfl (sf_add (a := v25) (b := (1 : Int)) rfl rfl rfl c_11 ?_)
      refine xm 25 (pI (v25 + (1 : Int))) ?_
      refine XK.nz ?_
      exact ⟨k_5, by omega, ⟨tab [(1, pI epoch1), (4, .vptr 0 0), (6, pI v6_2), (8, .vptr 1 0), (23, .d (.slice (v23_2.map eRow))), (24, pI v24_2), (25, pI (v25 + (1 : Int)))], tabH [.var [.full (([] : (List (List Row))).map (eL eRow))], .var [.d (.slice (((x_9.1).fpages).map (eL eRow)))]], 2, []⟩, View.mk 2 [0, 1] _ _ _ rfl rfl (by decide) (iC (iC (iC (iC (iC (iC (iC trivial))))))) (And.intro rfl (And.intro rfl trivial)) rfl zL rfl, v6_2, v23_2, v24_2, (v25 + (1 : Int)), (x_9.1).fpages, by omega, jG h, rfl⟩
    · replace h := bGF h hb_8
      refine QW.skip zL (blN (nrm ?_))
      refine rG ?_
      obtain ⟨c_12, h⟩ := gG h
      refine xs 44 rfl (sf_add (a := v25) (b := (1 : Int)) rfl rfl rfl c_12 ?_)
      refine xm 25 (pI (v25 + (1 : Int))) ?_
      refine XK.nz ?_
      exact ⟨k_5, by omega, ⟨tab [(1, pI epoch1), (4, .vptr 0 0), (6, pI v6_2), (8, .vptr 1 0), (23, .d (.slice (v23_2.map eRow))), (24, pI v24_2), (25, pI (v25 + (1 : Int)))], tabH [.var [.full (([] : (List (List Row))).map (eL eRow))], .var [.d (.slice (v8_0.map (eL eRow)))]], 2, []⟩, View.mk 2 [0, 1] _ _ _ rfl rfl (by decide) (iC (iC (iC (iC (iC (iC (iC trivial))))))) (And.intro rfl (And.intro rfl trivial)) rfl zL rfl, v6_2, v23_2, v24_2, (v25 + (1 : Int)), v8_0, by omega, jG h, rfl⟩
  · replace h := bGF h hb_6
    refine QW.exit zL (thX (thX (exE (nrm ?_))))
    refine sR ?_
    refine XK.as (some 46) rfl rfl (sf_ldV (v := .agg [.d (.slice (v8_0.map (eL eRow)))]) rfl TT.tyA_28 rfl rfl ⟨⟨by simp, by simp⟩, rfl⟩ ⟨.d (.agg (cDB (⟨(⟨v8_0⟩ : Index)⟩ : DB))), (Imp.toD rfl), ?_⟩)
    obtain ⟨x_13, hx_14, h⟩ := bG h
    refine xs 47 rfl (sf_call rfl rfl TT.enters_13 rfl (sim_nodedb_DB_Size (⟨(⟨v8_0⟩ : Index)⟩ : DB) _ hx_14) ?_)
    refine xm 45 (.d (.tuple [.val (.int .i64 (x_13.1)), .val (.int .i64 (x_13.2))])) ?_
    refine xs 48 rfl (sf_extract rfl rfl rfl ?_)
    refine xs 49 rfl (sf_extract rfl rfl rfl ?_)
    refine xa 13 (pI (x_13.1)) ?_
    refine xz 14 (pI (x_13.2)) ?_
    refine sR ?_
    refine XK.as (some 50) rfl rfl (sf_ldV (v := .agg [.d (.slice (v8_0.map (eL eRow)))]) rfl TT.tyA_28 rfl rfl ⟨⟨by simp, by simp⟩, rfl⟩ ⟨.d (.agg (cDB (⟨(⟨v8_0⟩ : Index)⟩ : DB))), (Imp.toD rfl), ?_⟩)
    refine xm 51 (pI v6_2) ?_
    refine xm 52 (pI (x_13.1)) ?_
    obtain ⟨c_15, h⟩ := gG h
    refine xs 53 rfl (sf_sub (a := v6_2) (b := (x_13.1)) rfl rfl rfl c_15 ?_)
    refine XK.st none rfl rfl (sf_stV (l' := [.d (.slice (v8_0.map (eL eRow)))]) rfl TT.tyA_28 rfl rfl rfl rfl rfl rfl (by simp) rfl ?_)
    refine xz 5 (pI (v6_2 - (x_13.1))) ?_
    refine QW.ret zL ?_
    obtain rfl := sG h
    exact Ends.more (.inr rfl) rfl (ps := [.agg [.d (.slice (v8_0.map (eL eRow)))], pI (v6_2 - (x_13.1))]) (And.intro (ResIs.cell rfl rfl TT.tyA_28 ⟨⟨by simp, by simp⟩, rfl⟩) (And.intro (ResIs.tmp rfl) trivial)) rfl rfl
inductive C_nodedb_Read where
  | S
  | L1 (v18_2 : (List Row)) (v19_2 : Int) (v20 : Int) (v4_0_2 : (List (List Row)))
noncomputable def step_nodedb_Read (s0 : (List UInt8)) : C_nodedb_Read → Option (C_nodedb_Read ⊕ (DB × Int))
  | .S =>
    ((g_pindex_Load s0).bind fun (x_1 : (Index × Int)) =>
    (bif (!decide ((x_1.2) = (0 : Int))) then
    some (.inr ((⟨(⟨([] : (List (List Row)))⟩ : Index)⟩ : DB), x_1.2))
    else
    ((g_pindex_Index_All (x_1.1)).bind fun (x_4 : (List Row)) =>
    some (.inl (.L1 x_4 (x_4.length : Int) (0) ((x_1.1).fpages))))))
  | .L1 v18_2 v19_2 v20 v4_0_2 =>
    (bif (decide (v20 < v19_2)) then
    gO (0 ≤ v20 ∧ v20 < (v18_2.length : Int)) (
    ((g_sum_Of ((idx v18_2 v20).fBody)).bind fun (x_9 : (Arr 32 UInt8)) =>
    (bif (!(x_9.1 == ((idx v18_2 v20).fSum).1)) then
    some (.inr ((⟨(⟨([] : (List (List Row)))⟩ : Index)⟩ : DB), 6))
    else
    gO (inI (v20 + (1 : Int))) (
    some (.inl (.L1 v18_2 v19_2 (v20 + (1 : Int)) v4_0_2))))))
    else
    some (.inr ((⟨(⟨v4_0_2⟩ : Index)⟩ : DB), 0)))
noncomputable def g_nodedb_Read (s0 : (List UInt8)) : Option (DB × Int) := theC (step_nodedb_Read s0) .S
theorem sim_nodedb_Read (s0 : (List UInt8)) (r : (DB × Int)) (h : g_nodedb_Read s0 = some r) : Fun Try.prog 7 [.val (sV s0)] (.tuple [.agg (cDB (r.1)), .val (.int .i64 (r.2))]) := by
  refine Fun.of_bodyQ Try.func7 rfl (by simp [Try.ntmps7]) ?_
  rw [Try.ntmps7, TT.res_7]
  refine QW.view (s' := ⟨tab [(0, pS s0)], tabH [], 0, []⟩) (View.init (by rfl)) zL ?_
  replace h := theC_get h
  obtain ⟨_, h⟩ := h
  obtain ⟨k_0, rfl, h9⟩ := run_succ h; replace h := h9; clear h9; rw [step_nodedb_Read] at h
  refine sR ?_
  refine xs 2 rfl (sf_alloc (l := [.full (([] : (List (List Row))).map (eL eRow))]) rfl TT.zeroA_28 rfl rfl ?_)
  refine xz 3 (pI (0)) ?_
  refine sR ?_
  refine xm 9 (pS s0) ?_
  obtain ⟨x_1, hx_2, h⟩ := bG h
  refine xs 10 rfl (sf_call rfl rfl TT.enters_19 rfl (sim_pindex_Load s0 _ hx_2) ?_)
  refine xm 8 (.d (.tuple [.agg (cIndex (x_1.1)), .val (.int .i64 (x_1.2))])) ?_
  refine xs 11 rfl (sf_extract rfl rfl rfl ?_)
  refine xs 12 rfl (sf_extract rfl rfl rfl ?_)
  refine xs 4 rfl (sf_alloc (l := [.full (([] : (List (List Row))).map (eL eRow))]) rfl TT.zeroA_26 rfl rfl ?_)
  refine XK.st none rfl rfl (sf_stV (l' := [.d (.slice (((x_1.1).fpages).map (eL eRow)))]) rfl TT.tyA_26 rfl rfl rfl rfl rfl rfl (by simp) rfl ?_)
  refine xz 5 (pI (x_1.2)) ?_
  refine QW.seq ?_
  refine sR ?_
  refine xm 13 (pI (x_1.2)) ?_
  refine xs 14 rfl (sf_ne (a := (x_1.2)) (b := (0 : Int)) rfl rfl rfl ?_)
  refine XK.nz ?_
  refine QW.cond (t := (!decide ((x_1.2) = (0 : Int)))) rfl zL (fun hb_3 => ?_) (fun hb_3 => ?_)
  · replace h := bGT h hb_3
    refine sR ?_
    refine xs 15 rfl (sf_bld (v := .agg [.full (([] : (List (List Row))).map (eL eRow))]) rfl TT.bldA_28 (build_of rfl fill_nil) ?_)
    refine xm 16 (pI (x_1.2)) ?_
    refine XK.st none rfl rfl (sf_stV (l' := [.full (([] : (List (List Row))).map (eL eRow))]) rfl TT.tyA_28 rfl rfl rfl rfl rfl rfl (by simp) rfl ?_)
    refine xz 3 (pI (x_1.2)) ?_
    refine QW.ret zL (thR ?_)
    obtain rfl := sG h
    exact Ends.more (.inr rfl) rfl (ps := [.agg [.full (([] : (List (List Row))).map (eL eRow))], pI (x_1.2)]) (And.intro (ResIs.cell rfl rfl TT.tyA_28 ⟨⟨by simp, by simp⟩, rfl⟩) (And.intro (ResIs.tmp rfl) trivial)) rfl rfl
  · replace h := bGF h hb_3
    refine QW.skip zL (nrm ?_)
    refine QW.seq ?_
    refine sR ?_
    refine XK.as (some 17) rfl rfl (sf_ldV (v := .agg [.d (.slice (((x_1.1).fpages).map (eL eRow)))]) rfl TT.tyA_26 rfl rfl ⟨⟨by simp, by simp⟩, rfl⟩ ⟨.d (.agg (cIndex (x_1.1))), (Imp.toD rfl), ?_⟩)
    obtain ⟨x_4, hx_5, h⟩ := bG h
    refine xs 18 rfl (sf_call rfl rfl TT.enters_9 rfl (sim_pindex_Index_All (x_1.1) _ hx_5) ?_)
    refine xs 19 rfl (sf_lenL (en := eRow) (l := x_4) rfl TT.under_38 rfl ?_)
    refine xm 20 (pI (0)) ?_
    refine XK.nz ?_
    refine QW.block ?_
    refine QW.loop (fun k σ => ∃ v18_2 : (List Row), ∃ v19_2 : Int, ∃ v20 : Int, ∃ v4_0_2 : (List (List Row)), k ≤ k_0 ∧ run (step_nodedb_Read s0) k (.L1 v18_2 v19_2 v20 v4_0_2) = some r ∧ σ = ⟨tab [(2, .vptr 0 0), (4, .vptr 1 0), (18, .d (.slice (v18_2.map eRow))), (19, pI v19_2), (20, pI v20)], tabH [.var [.full (([] : (List (List Row))).map (eL eRow))], .var [.d (.slice (v4_0_2.map (eL eRow)))]], 2, []⟩) k_0 zL ⟨⟨tab [(2, .vptr 0 0), (4, .vptr 1 0), (18, .d (.slice (x_4.map eRow))), (19, pI (x_4.length : Int)), (20, pI (0))], tabH [.var [.full (([] : (List (List Row))).map (eL eRow))], .var [.d (.slice (((x_1.1).fpages).map (eL eRow)))]], 2, []⟩, View.mk 2 [0, 1] _ _ _ rfl rfl (by decide) (iC (iC (iC (iC (iC trivial))))) (And.intro rfl (And.intro rfl trivial)) rfl zL rfl, x_4, (x_4.length : Int), 0, (x_1.1).fpages, Nat.le_refl _, jG h, rfl⟩ ?_
    rintro k_6s _ ⟨v18_2, v19_2, v20, v4_0_2, k_6h, h, rfl⟩
    obtain ⟨k_6, rfl, h9⟩ := run_succ h; replace h := h9; clear h9; rw [step_nodedb_Read] at h
    refine sR ?_
    refine xs 21 rfl (sf_lss (a := v20) (b := v19_2) rfl rfl rfl ?_)
    refine XK.nz ?_
    refine QW.seq ?_
    refine QW.cond (t := (decide (v20 < v19_2))) rfl zL (fun hb_7 => ?_) (fun hb_7 => ?_)
    · replace h := bGT h hb_7
      refine QW.skip zL (nrm ?_)
      refine QW.seq ?_
      refine QW.block ?_
      refine sR ?_
      obtain ⟨c_8, h⟩ := gG h
      refine xs 22 rfl (sf_idxA (l := v18_2) (i := v20) rfl TT.slcA_38 lay_Row rfl rfl c_8 ?_)
      refine xs 23 rfl (sf_ldC (d := .agg (cRow (idx v18_2 v20))) rfl TT.tyA_44 rfl (⟨by rw [lay_Row.len]; decide, congrArg D.agg (List.take_of_length_le (by rw [lay_Row.len]; decide))⟩) ?_)
      refine xs 7 rfl (sf_alloc (l := ((cRow (⟨(Arr.rep 32 (0 : UInt8)), (0 : Int), ([] : (List UInt8))⟩ : Row)).map .d)) rfl TT.zeroA_44 rfl rfl ?_)
      refine XK.st none rfl rfl (sf_stV (l' := ((cRow (idx v18_2 v20)).map .d)) rfl TT.tyA_44 rfl rfl rfl rfl rfl (len_dd (lay_Row.len _)) (le_dd (lay_Row.len _)) (spl_dd ((lay_Row.len _).trans (lay_Row.len _).symm)) ?_)
      refine XK.nz ?_
      refine QW.seq ?_
      refine QW.region zL (PW.regQ (id := 7) mixedX (M := _) rfl (by kernel_rfl) ?_)
      refine RQ.st (some 24) rfl rfl (sf_fldV rfl TT.fldA_44_2 (by decide) rfl ⟨⟨rfl, rfl⟩, ?_⟩)
      refine RQ.st (some 25) rfl rfl (sf_ldV (v := pS ((idx v18_2 v20).fBody)) rfl TT.tyA_9 rfl rfl (ldv_ldc (ldc_Row_2 _) (by rw [lay_Row.len]; decide) (by decide)) ⟨⟨rfl, rfl⟩, ?_⟩)
      obtain ⟨x_9, hx_10, h⟩ := bG h
      refine RQ.st (some 26) rfl rfl (sf_call rfl rfl TT.enters_15 rfl (sim_sum_Of ((idx v18_2 v20).fBody) _ hx_10) ⟨⟨rfl, rfl⟩, ?_⟩)
      refine RQ.st (some 27) rfl rfl (sf_fldV rfl TT.fldA_44_0 (by decide) rfl ⟨⟨rfl, rfl⟩, ?_⟩)
      refine RQ.as (some 28) rfl rfl (sf_ldV rfl TT.tyA_41 rfl rfl (ldv_ldcA (ldc_Row_0 _) (by rw [lay_Row.len]; decide) (by decide)) ⟨⟨rfl, rfl⟩, .d (.agg (((idx v18_2 v20).fSum).1.map byteD)), imp_arr, ?_⟩)
      refine RQ.st (some 29) rfl rfl (sf_arrne (p := x_9) (q := (idx v18_2 v20).fSum) rfl TT.arrB_41_32 rfl rfl ⟨⟨rfl, rfl⟩, ?_⟩)
      refine RQ.nil (nrm ?_)
      refine QW.cond (t := (!(x_9.1 == ((idx v18_2 v20).fSum).1))) rfl zL (fun hb_11 => ?_) (fun hb_11 => ?_)
      · replace h := bGT h hb_11
        refine sR ?_
        refine xs 30 rfl (sf_bld (v := .agg [.full (([] : (List (List Row))).map (eL eRow))]) rfl TT.bldA_28 (build_of rfl fill_nil) ?_)
        refine XK.st none rfl rfl (sf_stV (l' := [.full (([] : (List (List Row))).map (eL eRow))]) rfl TT.tyA_28 rfl rfl rfl rfl rfl rfl (by simp) rfl ?_)
        refine xz 3 (pI (6)) ?_
        refine QW.ret zL (blR (thR (thR (blR (thR ?_)))))
        obtain rfl := sG h
        exact Ends.more (.inr rfl) rfl (ps := [.agg [.full (([] : (List (List Row))).map (eL eRow))], pI (6)]) (And.intro (ResIs.cell rfl rfl TT.tyA_28 ⟨⟨by simp, by simp⟩, rfl⟩) (And.intro (ResIs.tmp rfl) trivial)) rfl rfl
      · replace h := bGF h hb_11
        refine QW.skip zL (blN (nrm ?_))
        refine rG ?_
        obtain ⟨c_12, h⟩ := gG h
        refine xs 31 rfl (sf_add (a := v20) (b := (1 : Int)) rfl rfl rfl c_12 ?_)
        refine xm 20 (pI (v20 + (1 : Int))) ?_
        refine XK.nz ?_
        exact ⟨k_6, by omega, ⟨tab [(2, .vptr 0 0), (4, .vptr 1 0), (18, .d (.slice (v18_2.map eRow))), (19, pI v19_2), (20, pI (v20 + (1 : Int)))], tabH [.var [.full (([] : (List (List Row))).map (eL eRow))], .var [.d (.slice (v4_0_2.map (eL eRow)))]], 2, []⟩, View.mk 2 [0, 1] _ _ _ rfl rfl (by decide) (iC (iC (iC (iC (iC trivial))))) (And.intro rfl (And.intro rfl trivial)) rfl zL rfl, v18_2, v19_2, (v20 + (1 : Int)), v4_0_2, by omega, jG h, rfl⟩
    · replace h := bGF h hb_7
      refine QW.exit zL (thX (thX (exE (nrm ?_))))
      refine sR ?_
      refine XK.as (some 32) rfl rfl (sf_ldV (v := .agg [.d (.slice (v4_0_2.map (eL eRow)))]) rfl TT.tyA_26 rfl rfl ⟨⟨by simp, by simp⟩, rfl⟩ ⟨.d (.agg (cIndex (⟨v4_0_2⟩ : Index))), (Imp.toD rfl), ?_⟩)
      refine xs 33 rfl (sf_bld (v := .agg [.d (.slice (v4_0_2.map (eL eRow)))]) rfl TT.bldA_28 (build_of rfl (fill_step (cells' := [.d (.slice (v4_0_2.map (eL eRow)))]) rfl rfl rfl bL rfl fill_nil)) ?_)
      refine XK.st none rfl rfl (sf_stV (l' := [.d (.slice (v4_0_2.map (eL eRow)))]) rfl TT.tyA_28 rfl rfl rfl rfl rfl rfl (by simp) rfl ?_)
      refine xz 3 (pI (0)) ?_
      refine QW.ret zL ?_
      obtain rfl := sG h
      exact Ends.more (.inr rfl) rfl (ps := [.agg [.d (.slice (v4_0_2.map (eL eRow)))], pI (0)]) (And.intro (ResIs.cell rfl rfl TT.tyA_28 ⟨⟨by simp, by simp⟩, rfl⟩) (And.intro (ResIs.tmp rfl) trivial)) rfl rfl
inductive C_nodedb_DB_Held where
  | S
  | L1 (v5 : (List Int)) (v11_2 : (List Row)) (v12_2 : Int) (v13 : Int)
noncomputable def step_nodedb_DB_Held (d0 : DB) (x1 : (Arr 32 UInt8)) : C_nodedb_DB_Held → Option (C_nodedb_DB_Held ⊕ (List Int))
  | .S =>
    ((g_pindex_Index_Of (d0.fIndex) x1).bind fun (x_1 : (List Row)) =>
    some (.inl (.L1 ([] : (List Int)) x_1 (x_1.length : Int) (0))))
  | .L1 v5 v11_2 v12_2 v13 =>
    (bif (decide (v13 < v12_2)) then
    gO (0 ≤ v13 ∧ v13 < (v11_2.length : Int)) (
    gO ((v5.length + ([(idx v11_2 v13).fEpoch] : List Int).length) * 8 ≤ 140737488355328) (
    gO (inI (v13 + (1 : Int))) (
    some (.inl (.L1 (v5 ++ ([(idx v11_2 v13).fEpoch] : List Int)) v11_2 v12_2 (v13 + (1 : Int)))))))
    else
    some (.inr v5))
noncomputable def g_nodedb_DB_Held (d0 : DB) (x1 : (Arr 32 UInt8)) : Option (List Int) := theC (step_nodedb_DB_Held d0 x1) .S
theorem sim_nodedb_DB_Held (d0 : DB) (x1 : (Arr 32 UInt8)) (r : (List Int)) (h : g_nodedb_DB_Held d0 x1 = some r) : Fun Try.prog 14 [.agg (cDB d0), .agg (x1.1.map byteD)] (.slice (r.map eI)) := by
  refine Fun.of_bodyQ Try.func14 rfl (by simp [Try.ntmps14]) ?_
  rw [Try.ntmps14, TT.res_14]
  refine QW.view (s' := ⟨tab [(0, .d (.agg (cDB d0))), (1, .d (.agg (x1.1.map byteD)))], tabH [], 0, []⟩) (View.init (by rfl)) zL ?_
  replace h := theC_get h
  obtain ⟨_, h⟩ := h
  obtain ⟨k_0, rfl, h9⟩ := run_succ h; replace h := h9; clear h9; rw [step_nodedb_DB_Held] at h
  refine sR ?_
  refine XK.fz (some 2) rfl rfl (sf_boxF (ds := cDB d0) rfl rfl rfl rfl rfl ?_)
  refine XK.fz (some 3) rfl rfl (sf_boxF (ds := x1.1.map byteD) rfl rfl rfl rfl toDs_map ?_)
  refine xz 4 (.full (([] : (List Int)).map eI)) ?_
  refine sR ?_
  refine xz 5 (.full (([] : (List Int)).map eI)) ?_
  refine QW.seq ?_
  refine sR ?_
  refine xs 8 rfl (sf_fldC rfl TT.fldA_28_0 (by decide) rfl ?_)
  refine xs 9 rfl (sf_ldC (d := .agg (cIndex (d0.fIndex))) rfl TT.tyA_26 rfl (⟨by simp [cDB, cIndex], rfl⟩) ?_)
  refine xs 10 rfl (sf_ldC (d := .agg (x1.1.map byteD)) rfl TT.tyA_41 rfl (ldc_all (by rw [List.length_map, x1.2])) ?_)
  obtain ⟨x_1, hx_2, h⟩ := bG h
  refine xs 11 rfl (sf_call rfl rfl TT.enters_23 rfl (sim_pindex_Index_Of (d0.fIndex) x1 _ hx_2) ?_)
  refine xs 12 rfl (sf_lenL (en := eRow) (l := x_1) rfl TT.under_38 rfl ?_)
  refine xm 13 (pI (0)) ?_
  refine XK.nz ?_
  refine QW.block ?_
  refine QW.loop (fun k σ => ∃ v5 : (List Int), ∃ v11_2 : (List Row), ∃ v12_2 : Int, ∃ v13 : Int, k ≤ k_0 ∧ run (step_nodedb_DB_Held d0 x1) k (.L1 v5 v11_2 v12_2 v13) = some r ∧ σ = ⟨tab [(5, .own 0 (v5.map eI)), (11, .d (.slice (v11_2.map eRow))), (12, pI v12_2), (13, pI v13)], tabH [.spare 1 v5.length], 1, []⟩) k_0 zL ⟨⟨tab [(5, .own 0 (([] : (List Int)).map eI)), (11, .d (.slice (x_1.map eRow))), (12, pI (x_1.length : Int)), (13, pI (0))], tabH [.spare 1 ([] : (List Int)).length], 1, []⟩, View.trans (View.buf 5 1 rfl zL) (View.mk 1 [0] _ _ _ rfl rfl (by decide) (iC (iC (iC (iC trivial)))) (And.intro rfl trivial) rfl zL rfl), ([] : (List Int)), x_1, (x_1.length : Int), 0, Nat.le_refl _, jG h, rfl⟩ ?_
  rintro k_3s _ ⟨v5, v11_2, v12_2, v13, k_3h, h, rfl⟩
  obtain ⟨k_3, rfl, h9⟩ := run_succ h; replace h := h9; clear h9; rw [step_nodedb_DB_Held] at h
  refine sR ?_
  refine xs 14 rfl (sf_lss (a := v13) (b := v12_2) rfl rfl rfl ?_)
  refine XK.nz ?_
  refine QW.seq ?_
  refine QW.cond (t := (decide (v13 < v12_2))) rfl zL (fun hb_4 => ?_) (fun hb_4 => ?_)
  · replace h := bGT h hb_4
    refine QW.skip zL (nrm ?_)
    refine QW.seq ?_
    refine QW.block ?_
    refine sR ?_
    obtain ⟨c_5, h⟩ := gG h
    refine xs 15 rfl (sf_idxA (l := v11_2) (i := v13) rfl TT.slcA_38 lay_Row rfl rfl c_5 ?_)
    refine xs 16 rfl (sf_ldC (d := .agg (cRow (idx v11_2 v13))) rfl TT.tyA_44 rfl (⟨by rw [lay_Row.len]; decide, congrArg D.agg (List.take_of_length_le (by rw [lay_Row.len]; decide))⟩) ?_)
    refine xs 7 rfl (sf_alloc (l := ((cRow (⟨(Arr.rep 32 (0 : UInt8)), (0 : Int), ([] : (List UInt8))⟩ : Row)).map .d)) rfl TT.zeroA_44 rfl rfl ?_)
    refine XK.st none rfl rfl (sf_stV (l' := ((cRow (idx v11_2 v13)).map .d)) rfl TT.tyA_44 rfl rfl rfl rfl rfl (len_dd (lay_Row.len _)) (le_dd (lay_Row.len _)) (spl_dd ((lay_Row.len _).trans (lay_Row.len _).symm)) ?_)
    refine XK.nz ?_
    refine rG ?_
    refine xm 17 (.own 0 (v5.map eI)) ?_
    refine xs 18 rfl (sf_fldV rfl TT.fldA_44_1 (by decide) rfl ?_)
    refine xs 19 rfl (sf_ldV (v := pI ((idx v11_2 v13).fEpoch)) rfl TT.tyA_3 rfl rfl (ldv_ldc (ldc_Row_1 _) (by rw [lay_Row.len]; decide) (by decide)) ?_)
    refine xs 20 rfl (sf_row (en := eI) (l := ([(idx v11_2 v13).fEpoch] : List Int)) rfl TT.rowA_52 lay_I rfl rfl (by decide) (by simp [solids, partsP, evP, ofVal, PV.solid, putS_at, tab, unS, unT, unC, asCond, Value.oneCell']) ?_)
    obtain ⟨c_6, h⟩ := gG h
    refine xs 21 rfl (sf_appO (en := eI) (l := v5) (l2 := ([(idx v11_2 v13).fEpoch] : List Int)) rfl TT.rowA_52 TT.under_52 rfl lay_I rfl rfl rfl c_6 (by decide) ?_)
    refine xa 5 (.own 2 ((v5 ++ ([(idx v11_2 v13).fEpoch] : List Int)).map eI)) ?_
    refine XK.nil (blN (nrm ?_))
    refine rG ?_
    obtain ⟨c_7, h⟩ := gG h
    refine xs 22 rfl (sf_add (a := v13) (b := (1 : Int)) rfl rfl rfl c_7 ?_)
    refine xm 13 (pI (v13 + (1 : Int))) ?_
    refine XK.nz ?_
    exact ⟨k_3, by omega, ⟨tab [(5, .own 0 ((v5 ++ ([(idx v11_2 v13).fEpoch] : List Int)).map eI)), (11, .d (.slice (v11_2.map eRow))), (12, pI v12_2), (13, pI (v13 + (1 : Int)))], tabH [.spare 1 (v5 ++ ([(idx v11_2 v13).fEpoch] : List Int)).length], 1, []⟩, View.mk 1 [2] _ _ _ rfl rfl (by decide) (iC (iC (iC (iC trivial)))) (And.intro rfl trivial) rfl zL rfl, (v5 ++ ([(idx v11_2 v13).fEpoch] : List Int)), v11_2, v12_2, (v13 + (1 : Int)), by omega, jG h, rfl⟩
  · replace h := bGF h hb_4
    refine QW.exit zL (thX (thX (exE (nrm ?_))))
    refine sR ?_
    refine xm 23 (.own 0 (v5.map eI)) ?_
    refine xz 4 (.own 0 (v5.map eI)) ?_
    refine QW.ret zL ?_
    obtain rfl := sG h
    exact Ends.one (.inr rfl) rfl (ResIs.tmp rfl) rfl rfl
noncomputable def g_law49_awake  : Option Bool :=
    ((g_nodedb_DB_Hold (⟨(⟨([] : (List (List Row)))⟩ : Index)⟩ : DB) (1) ([120] : List UInt8)).bind fun (x_1 : (DB × Int)) =>
    ((g_nodedb_DB_Hold (x_1.1) (2) ([120] : List UInt8)).bind fun (x_3 : (DB × Int)) =>
    ((g_nodedb_DB_Forget (x_3.1) (1)).bind fun (x_5 : (DB × Int)) =>
    ((g_ref03_Sum ([120] : List UInt8)).bind fun (x_7 : (Arr 32 UInt8)) =>
    ((g_nodedb_DB_Body (x_5.1) x_7).bind fun (x_9 : ((List UInt8) × Bool)) =>
    ((g_nodedb_DB_Size (x_5.1)).bind fun (x_11 : (Int × Int)) =>
    ((g_pindex_Index_Text ((x_5.1).fIndex)).bind fun (x_13 : ((List UInt8) × Int)) =>
    ((g_nodedb_Read (x_13.1)).bind fun (x_15 : (DB × Int)) =>
    ((bif ((((((((((decide ((x_1.2) = (0 : Int))) && (decide ((x_3.2) = (0 : Int)))) && (decide ((x_5.2) = (0 : Int)))) && (x_9.1 == ([120] : List UInt8))) && x_9.2) && (decide ((x_11.1) = (1 : Int)))) && (decide ((x_11.2) = (1 : Int)))) && (decide ((x_13.2) = (0 : Int)))) && (decide ((x_15.2) = (0 : Int)))) == true) then g_ref03_Sum ([120] : List UInt8) else some default).bind fun (x_17 : (Arr 32 UInt8)) =>
    ((bif ((((((((((decide ((x_1.2) = (0 : Int))) && (decide ((x_3.2) = (0 : Int)))) && (decide ((x_5.2) = (0 : Int)))) && (x_9.1 == ([120] : List UInt8))) && x_9.2) && (decide ((x_11.1) = (1 : Int)))) && (decide ((x_11.2) = (1 : Int)))) && (decide ((x_13.2) = (0 : Int)))) && (decide ((x_15.2) = (0 : Int)))) == true) then g_nodedb_DB_Held (x_15.1) x_17 else some default).bind fun (x_19 : (List Int)) =>
    ((bif (((((((((((decide ((x_1.2) = (0 : Int))) && (decide ((x_3.2) = (0 : Int)))) && (decide ((x_5.2) = (0 : Int)))) && (x_9.1 == ([120] : List UInt8))) && x_9.2) && (decide ((x_11.1) = (1 : Int)))) && (decide ((x_11.2) = (1 : Int)))) && (decide ((x_13.2) = (0 : Int)))) && (decide ((x_15.2) = (0 : Int)))) && (decide ((x_19.length : Int) = (1 : Int)))) == true) then g_pindex_Index_All ((x_3.1).fIndex) else some default).bind fun (x_21 : (List Row)) =>
    some (((((((((((decide ((x_1.2) = (0 : Int))) && (decide ((x_3.2) = (0 : Int)))) && (decide ((x_5.2) = (0 : Int)))) && (x_9.1 == ([120] : List UInt8))) && x_9.2) && (decide ((x_11.1) = (1 : Int)))) && (decide ((x_11.2) = (1 : Int)))) && (decide ((x_13.2) = (0 : Int)))) && (decide ((x_15.2) = (0 : Int)))) && (decide ((x_19.length : Int) = (1 : Int)))) && (decide ((x_21.length : Int) = (2 : Int)))))))))))))))
theorem sim_law49_awake  (r : Bool) (h : g_law49_awake  = some r) : Fun Try.prog 4 [] (.val (.bool r)) := by
  refine Fun.of_bodyQ Try.func4 rfl (by simp [Try.ntmps4]) ?_
  rw [Try.ntmps4, TT.res_4]
  refine QW.view (s' := ⟨tab [], tabH [], 0, []⟩) (View.init (by rfl)) zL ?_
  unfold g_law49_awake at h
  refine sR ?_
  refine xz 0 (pB false) ?_
  refine sR ?_
  refine xs 16 rfl (sf_bld (v := .agg [.full (([] : (List (List Row))).map (eL eRow))]) rfl TT.bldA_28 (build_of rfl fill_nil) ?_)
  obtain ⟨x_1, hx_2, h⟩ := bO h
  refine xs 17 rfl (sf_call rfl rfl TT.enters_5 rfl (sim_nodedb_DB_Hold (⟨(⟨([] : (List (List Row)))⟩ : Index)⟩ : DB) (1) ([120] : List UInt8) _ hx_2) ?_)
  refine xm 15 (.d (.tuple [.agg (cDB (x_1.1)), .val (.int .i64 (x_1.2))])) ?_
  refine xs 18 rfl (sf_extract rfl rfl rfl ?_)
  refine xs 19 rfl (sf_extract rfl rfl rfl ?_)
  refine xs 1 rfl (sf_alloc (l := [.full (([] : (List (List Row))).map (eL eRow))]) rfl TT.zeroA_28 rfl rfl ?_)
  refine XK.st none rfl rfl (sf_stV (l' := [.d (.slice ((((x_1.1).fIndex).fpages).map (eL eRow)))]) rfl TT.tyA_28 rfl rfl rfl rfl rfl rfl (by simp) rfl ?_)
  refine xz 2 (pI (x_1.2)) ?_
  refine sR ?_
  refine XK.as (some 21) rfl rfl (sf_ldV (v := .agg [.d (.slice ((((x_1.1).fIndex).fpages).map (eL eRow)))]) rfl TT.tyA_28 rfl rfl ⟨⟨by simp, by simp⟩, rfl⟩ ⟨.d (.agg (cDB (x_1.1))), (Imp.toD rfl), ?_⟩)
  obtain ⟨x_3, hx_4, h⟩ := bO h
  refine xs 22 rfl (sf_call rfl rfl TT.enters_5 rfl (sim_nodedb_DB_Hold (x_1.1) (2) ([120] : List UInt8) _ hx_4) ?_)
  refine xm 20 (.d (.tuple [.agg (cDB (x_3.1)), .val (.int .i64 (x_3.2))])) ?_
  refine xs 23 rfl (sf_extract rfl rfl rfl ?_)
  refine xs 24 rfl (sf_extract rfl rfl rfl ?_)
  refine xs 3 rfl (sf_alloc (l := [.full (([] : (List (List Row))).map (eL eRow))]) rfl TT.zeroA_28 rfl rfl ?_)
  refine XK.st none rfl rfl (sf_stV (l' := [.d (.slice ((((x_3.1).fIndex).fpages).map (eL eRow)))]) rfl TT.tyA_28 rfl rfl rfl rfl rfl rfl (by simp) rfl ?_)
  refine xz 4 (pI (x_3.2)) ?_
  refine QW.seq ?_
  refine QW.view (s' := ⟨tab [(2, pI (x_1.2)), (3, .vptr 0 0), (4, pI (x_3.2))], tabH [.var [.d (.slice ((((x_3.1).fIndex).fpages).map (eL eRow)))]], 1, []⟩) (View.mk 1 [1] _ _ _ rfl rfl (by decide) (iC (iC (iC trivial))) (And.intro rfl trivial) rfl zL rfl) zL ?_
  refine rG ?_
  refine XK.as (some 26) rfl rfl (sf_ldV (v := .agg [.d (.slice ((((x_3.1).fIndex).fpages).map (eL eRow)))]) rfl TT.tyA_28 rfl rfl ⟨⟨by simp, by simp⟩, rfl⟩ ⟨.d (.agg (cDB (x_3.1))), (Imp.toD rfl), ?_⟩)
  obtain ⟨x_5, hx_6, h⟩ := bO h
  refine xs 27 rfl (sf_call rfl rfl TT.enters_11 rfl (sim_nodedb_DB_Forget (x_3.1) (1) _ hx_6) ?_)
  refine xm 25 (.d (.tuple [.agg (cDB (x_5.1)), .val (.int .i64 (x_5.2))])) ?_
  refine xs 28 rfl (sf_extract rfl rfl rfl ?_)
  refine xs 29 rfl (sf_extract rfl rfl rfl ?_)
  refine xs 5 rfl (sf_alloc (l := [.full (([] : (List (List Row))).map (eL eRow))]) rfl TT.zeroA_28 rfl rfl ?_)
  refine XK.st none rfl rfl (sf_stV (l' := [.d (.slice ((((x_5.1).fIndex).fpages).map (eL eRow)))]) rfl TT.tyA_28 rfl rfl rfl rfl rfl rfl (by simp) rfl ?_)
  refine xz 6 (pI (x_5.2)) ?_
  refine QW.seq ?_
  refine QW.region zL (PW.regQ (id := 4) mixedX (M := _) rfl (by kernel_rfl) ?_)
  refine RQ.as (some 31) rfl rfl (sf_ldV (v := .agg [.d (.slice ((((x_5.1).fIndex).fpages).map (eL eRow)))]) rfl TT.tyA_28 rfl rfl ⟨⟨by simp, by simp⟩, rfl⟩ ⟨⟨rfl, rfl⟩, .d (.agg (cDB (x_5.1))), (Imp.toD rfl), ?_⟩)
  obtain ⟨x_7, hx_8, h⟩ := bO h
  refine RQ.st (some 32) rfl rfl (sf_call rfl rfl TT.enters_10 rfl (sim_ref03_Sum ([120] : List UInt8) _ hx_8) ⟨⟨rfl, rfl⟩, ?_⟩)
  obtain ⟨x_9, hx_10, h⟩ := bO h
  refine RQ.st (some 33) rfl rfl (sf_call rfl rfl TT.enters_12 rfl (sim_nodedb_DB_Body (x_5.1) x_7 _ hx_10) ⟨⟨rfl, rfl⟩, ?_⟩)
  refine RQ.st (some 30) rfl rfl (sf_move (v := .d (.tuple [.val (sV (x_9.1)), .val (.bool (x_9.2))])) rfl rfl ⟨⟨rfl, rfl⟩, ?_⟩)
  refine RQ.st (some 34) rfl rfl (sf_extract rfl rfl rfl ⟨⟨rfl, rfl⟩, ?_⟩)
  refine RQ.st (some 35) rfl rfl (sf_extract rfl rfl rfl ⟨⟨rfl, rfl⟩, ?_⟩)
  refine RQ.st (some 7) rfl rfl (sf_assign (v := pS (x_9.1)) rfl rfl ⟨⟨rfl, rfl⟩, ?_⟩)
  refine RQ.st (some 8) rfl rfl (sf_assign (v := pB (x_9.2)) rfl rfl ⟨⟨rfl, rfl⟩, ?_⟩)
  refine RQ.nil (nrm ?_)
  refine QW.seq ?_
  refine QW.view (s' := ⟨tab [(2, pI (x_1.2)), (3, .vptr 0 0), (4, pI (x_3.2)), (5, .vptr 1 0), (6, pI (x_5.2)), (7, pS (x_9.1)), (8, pB (x_9.2))], tabH [.var [.d (.slice ((((x_3.1).fIndex).fpages).map (eL eRow)))], .var [.d (.slice ((((x_5.1).fIndex).fpages).map (eL eRow)))]], 2, []⟩) (View.mk 2 [0, 1] _ _ _ rfl rfl (by decide) (iC (iC (iC (iC (iC (iC (iC trivial))))))) (And.intro rfl (And.intro rfl trivial)) rfl zL rfl) zL ?_
  refine rG ?_
  refine XK.as (some 37) rfl rfl (sf_ldV (v := .agg [.d (.slice ((((x_5.1).fIndex).fpages).map (eL eRow)))]) rfl TT.tyA_28 rfl rfl ⟨⟨by simp, by simp⟩, rfl⟩ ⟨.d (.agg (cDB (x_5.1))), (Imp.toD rfl), ?_⟩)
  obtain ⟨x_11, hx_12, h⟩ := bO h
  refine xs 38 rfl (sf_call rfl rfl TT.enters_13 rfl (sim_nodedb_DB_Size (x_5.1) _ hx_12) ?_)
  refine xm 36 (.d (.tuple [.val (.int .i64 (x_11.1)), .val (.int .i64 (x_11.2))])) ?_
  refine xs 39 rfl (sf_extract rfl rfl rfl ?_)
  refine xs 40 rfl (sf_extract rfl rfl rfl ?_)
  refine xa 9 (pI (x_11.1)) ?_
  refine xz 10 (pI (x_11.2)) ?_
  refine sR ?_
  refine xs 42 rfl (sf_fldV rfl TT.fldA_28_0 (by decide) rfl ?_)
  refine XK.as (some 43) rfl rfl (sf_ldV (v := .agg [.d (.slice ((((x_5.1).fIndex).fpages).map (eL eRow)))]) rfl TT.tyA_26 rfl rfl ⟨⟨by simp, by simp⟩, rfl⟩ ⟨.d (.agg (cIndex ((x_5.1).fIndex))), (Imp.toD rfl), ?_⟩)
  obtain ⟨x_13, hx_14, h⟩ := bO h
  refine xs 44 rfl (sf_call rfl rfl TT.enters_6 rfl (sim_pindex_Index_Text ((x_5.1).fIndex) _ hx_14) ?_)
  refine xm 41 (.d (.tuple [.val (sV (x_13.1)), .val (.int .i64 (x_13.2))])) ?_
  refine xs 45 rfl (sf_extract rfl rfl rfl ?_)
  refine xs 46 rfl (sf_extract rfl rfl rfl ?_)
  refine xa 11 (pS (x_13.1)) ?_
  refine xz 12 (pI (x_13.2)) ?_
  refine QW.seq ?_
  refine QW.view (s' := ⟨tab [(2, pI (x_1.2)), (3, .vptr 0 0), (4, pI (x_3.2)), (6, pI (x_5.2)), (7, pS (x_9.1)), (8, pB (x_9.2)), (9, pI (x_11.1)), (10, pI (x_11.2)), (11, pS (x_13.1)), (12, pI (x_13.2))], tabH [.var [.d (.slice ((((x_3.1).fIndex).fpages).map (eL eRow)))]], 1, []⟩) (View.mk 1 [0] _ _ _ rfl rfl (by decide) (iC (iC (iC (iC (iC (iC (iC (iC (iC (iC trivial)))))))))) (And.intro rfl trivial) rfl zL rfl) zL ?_
  refine rG ?_
  refine xm 48 (pS (x_13.1)) ?_
  obtain ⟨x_15, hx_16, h⟩ := bO h
  refine xs 49 rfl (sf_call rfl rfl TT.enters_7 rfl (sim_nodedb_Read (x_13.1) _ hx_16) ?_)
  refine xm 47 (.d (.tuple [.agg (cDB (x_15.1)), .val (.int .i64 (x_15.2))])) ?_
  refine xs 50 rfl (sf_extract rfl rfl rfl ?_)
  refine xs 51 rfl (sf_extract rfl rfl rfl ?_)
  refine xs 13 rfl (sf_alloc (l := [.full (([] : (List (List Row))).map (eL eRow))]) rfl TT.zeroA_28 rfl rfl ?_)
  refine XK.st none rfl rfl (sf_stV (l' := [.d (.slice ((((x_15.1).fIndex).fpages).map (eL eRow)))]) rfl TT.tyA_28 rfl rfl rfl rfl rfl rfl (by simp) rfl ?_)
  refine xz 14 (pI (x_15.2)) ?_
  refine QW.seq ?_
  refine QW.region zL (PW.regQ (id := 8) mixedX (M := _) rfl (by kernel_rfl) ?_)
  refine RQ.st (some 52) rfl rfl (sf_move (v := pI (x_1.2)) rfl rfl ⟨⟨rfl, rfl⟩, ?_⟩)
  refine RQ.st (some 53) rfl rfl (sf_eq (a := (x_1.2)) (b := (0 : Int)) rfl rfl rfl ⟨⟨rfl, rfl⟩, ?_⟩)
  refine RQ.st (some 54) rfl rfl (sf_move (v := pB (decide ((x_1.2) = (0 : Int)))) rfl rfl ⟨⟨rfl, rfl⟩, ?_⟩)
  refine RQ.gd (v := pI (x_3.2)) (T := []) (some 55) rfl rfl (by repeat (first | exact trivial | refine ⟨fun q => by first | rfl | exact q | exact cda q | exact cdb q, ?_⟩)) (fun hg => sf_move (v := pI (x_3.2)) rfl rfl g3) nm0 ?_
  refine RQ.gd (v := pB (decide ((x_3.2) = (0 : Int)))) (T := []) (some 56) rfl rfl (by repeat (first | exact trivial | refine ⟨fun q => by first | rfl | exact q | exact cda q | exact cdb q, ?_⟩)) (fun hg => sf_eq (a := (x_3.2)) (b := (0 : Int)) rfl rfl rfl g3) nm0 ?_
  refine RQ.st (some 57) rfl rfl (sf_pickA rfl rfl rfl rfl (fun hb => by rw [hb]; rfl) (fun _ => rfl) ⟨⟨rfl, rfl⟩, ?_⟩)
  refine RQ.st (some 58) rfl rfl (sf_move (v := pB ((decide ((x_1.2) = (0 : Int))) && (decide ((x_3.2) = (0 : Int))))) rfl rfl ⟨⟨rfl, rfl⟩, ?_⟩)
  refine RQ.gd (v := pI (x_5.2)) (T := []) (some 59) rfl rfl (by repeat (first | exact trivial | refine ⟨fun q => by first | rfl | exact q | exact cda q | exact cdb q, ?_⟩)) (fun hg => sf_move (v := pI (x_5.2)) rfl rfl g3) nm0 ?_
  refine RQ.gd (v := pB (decide ((x_5.2) = (0 : Int)))) (T := []) (some 60) rfl rfl (by repeat (first | exact trivial | refine ⟨fun q => by first | rfl | exact q | exact cda q | exact cdb q, ?_⟩)) (fun hg => sf_eq (a := (x_5.2)) (b := (0 : Int)) rfl rfl rfl g3) nm0 ?_
  refine RQ.st (some 61) rfl rfl (sf_pickA rfl rfl rfl rfl (fun hb => by rw [hb]; rfl) (fun _ => rfl) ⟨⟨rfl, rfl⟩, ?_⟩)
  refine RQ.st (some 62) rfl rfl (sf_move (v := pB (((decide ((x_1.2) = (0 : Int))) && (decide ((x_3.2) = (0 : Int)))) && (decide ((x_5.2) = (0 : Int))))) rfl rfl ⟨⟨rfl, rfl⟩, ?_⟩)
  refine RQ.gd (v := pS (x_9.1)) (T := []) (some 63) rfl rfl (by repeat (first | exact trivial | refine ⟨fun q => by first | rfl | exact q | exact cda q | exact cdb q, ?_⟩)) (fun hg => sf_move (v := pS (x_9.1)) rfl rfl g3) nm0 ?_
  refine RQ.gd (v := pB (x_9.1 == ([120] : List UInt8))) (T := []) (some 64) rfl rfl (by repeat (first | exact trivial | refine ⟨fun q => by first | rfl | exact q | exact cda q | exact cdb q, ?_⟩)) (fun hg => sf_seq (a := x_9.1) (b := ([120] : List UInt8)) rfl rfl rfl g3) nm0 ?_
  refine RQ.st (some 65) rfl rfl (sf_pickA rfl rfl rfl rfl (fun hb => by rw [hb]; rfl) (fun _ => rfl) ⟨⟨rfl, rfl⟩, ?_⟩)
  refine RQ.st (some 66) rfl rfl (sf_move (v := pB ((((decide ((x_1.2) = (0 : Int))) && (decide ((x_3.2) = (0 : Int)))) && (decide ((x_5.2) = (0 : Int)))) && (x_9.1 == ([120] : List UInt8)))) rfl rfl ⟨⟨rfl, rfl⟩, ?_⟩)
  refine RQ.gd (v := pB (x_9.2)) (T := []) (some 67) rfl rfl (by repeat (first | exact trivial | refine ⟨fun q => by first | rfl | exact q | exact cda q | exact cdb q, ?_⟩)) (fun hg => sf_move (v := pB (x_9.2)) rfl rfl g3) nm0 ?_
  refine RQ.st (some 68) rfl rfl (sf_pickA rfl rfl rfl rfl (fun hb => by rw [hb]; rfl) (fun _ => rfl) ⟨⟨rfl, rfl⟩, ?_⟩)
  refine RQ.st (some 69) rfl rfl (sf_move (v := pB (((((decide ((x_1.2) = (0 : Int))) && (decide ((x_3.2) = (0 : Int)))) && (decide ((x_5.2) = (0 : Int)))) && (x_9.1 == ([120] : List UInt8))) && x_9.2)) rfl rfl ⟨⟨rfl, rfl⟩, ?_⟩)
  refine RQ.gd (v := pI (x_11.1)) (T := []) (some 70) rfl rfl (by repeat (first | exact trivial | refine ⟨fun q => by first | rfl | exact q | exact cda q | exact cdb q, ?_⟩)) (fun hg => sf_move (v := pI (x_11.1)) rfl rfl g3) nm0 ?_
  refine RQ.gd (v := pB (decide ((x_11.1) = (1 : Int)))) (T := []) (some 71) rfl rfl (by repeat (first | exact trivial | refine ⟨fun q => by first | rfl | exact q | exact cda q | exact cdb q, ?_⟩)) (fun hg => sf_eq (a := (x_11.1)) (b := (1 : Int)) rfl rfl rfl g3) nm0 ?_
  refine RQ.st (some 72) rfl rfl (sf_pickA rfl rfl rfl rfl (fun hb => by rw [hb]; rfl) (fun _ => rfl) ⟨⟨rfl, rfl⟩, ?_⟩)
  refine RQ.st (some 73) rfl rfl (sf_move (v := pB ((((((decide ((x_1.2) = (0 : Int))) && (decide ((x_3.2) = (0 : Int)))) && (decide ((x_5.2) = (0 : Int)))) && (x_9.1 == ([120] : List UInt8))) && x_9.2) && (decide ((x_11.1) = (1 : Int))))) rfl rfl ⟨⟨rfl, rfl⟩, ?_⟩)
  refine RQ.gd (v := pI (x_11.2)) (T := []) (some 74) rfl rfl (by repeat (first | exact trivial | refine ⟨fun q => by first | rfl | exact q | exact cda q | exact cdb q, ?_⟩)) (fun hg => sf_move (v := pI (x_11.2)) rfl rfl g3) nm0 ?_
  refine RQ.gd (v := pB (decide ((x_11.2) = (1 : Int)))) (T := []) (some 75) rfl rfl (by repeat (first | exact trivial | refine ⟨fun q => by first | rfl | exact q | exact cda q | exact cdb q, ?_⟩)) (fun hg => sf_eq (a := (x_11.2)) (b := (1 : Int)) rfl rfl rfl g3) nm0 ?_
  refine RQ.st (some 76) rfl rfl (sf_pickA rfl rfl rfl rfl (fun hb => by rw [hb]; rfl) (fun _ => rfl) ⟨⟨rfl, rfl⟩, ?_⟩)
  refine RQ.st (some 77) rfl rfl (sf_move (v := pB (((((((decide ((x_1.2) = (0 : Int))) && (decide ((x_3.2) = (0 : Int)))) && (decide ((x_5.2) = (0 : Int)))) && (x_9.1 == ([120] : List UInt8))) && x_9.2) && (decide ((x_11.1) = (1 : Int)))) && (decide ((x_11.2) = (1 : Int))))) rfl rfl ⟨⟨rfl, rfl⟩, ?_⟩)
  refine RQ.gd (v := pI (x_13.2)) (T := []) (some 78) rfl rfl (by repeat (first | exact trivial | refine ⟨fun q => by first | rfl | exact q | exact cda q | exact cdb q, ?_⟩)) (fun hg => sf_move (v := pI (x_13.2)) rfl rfl g3) nm0 ?_
  refine RQ.gd (v := pB (decide ((x_13.2) = (0 : Int)))) (T := []) (some 79) rfl rfl (by repeat (first | exact trivial | refine ⟨fun q => by first | rfl | exact q | exact cda q | exact cdb q, ?_⟩)) (fun hg => sf_eq (a := (x_13.2)) (b := (0 : Int)) rfl rfl rfl g3) nm0 ?_
  refine RQ.st (some 80) rfl rfl (sf_pickA rfl rfl rfl rfl (fun hb => by rw [hb]; rfl) (fun _ => rfl) ⟨⟨rfl, rfl⟩, ?_⟩)
  refine RQ.st (some 81) rfl rfl (sf_move (v := pB ((((((((decide ((x_1.2) = (0 : Int))) && (decide ((x_3.2) = (0 : Int)))) && (decide ((x_5.2) = (0 : Int)))) && (x_9.1 == ([120] : List UInt8))) && x_9.2) && (decide ((x_11.1) = (1 : Int)))) && (decide ((x_11.2) = (1 : Int)))) && (decide ((x_13.2) = (0 : Int))))) rfl rfl ⟨⟨rfl, rfl⟩, ?_⟩)
  refine RQ.gd (v := pI (x_15.2)) (T := []) (some 82) rfl rfl (by repeat (first | exact trivial | refine ⟨fun q => by first | rfl | exact q | exact cda q | exact cdb q, ?_⟩)) (fun hg => sf_move (v := pI (x_15.2)) rfl rfl g3) nm0 ?_
  refine RQ.gd (v := pB (decide ((x_15.2) = (0 : Int)))) (T := []) (some 83) rfl rfl (by repeat (first | exact trivial | refine ⟨fun q => by first | rfl | exact q | exact cda q | exact cdb q, ?_⟩)) (fun hg => sf_eq (a := (x_15.2)) (b := (0 : Int)) rfl rfl rfl g3) nm0 ?_
  refine RQ.st (some 84) rfl rfl (sf_pickA rfl rfl rfl rfl (fun hb => by rw [hb]; rfl) (fun _ => rfl) ⟨⟨rfl, rfl⟩, ?_⟩)
  refine RQ.st (some 85) rfl rfl (sf_move (v := pB (((((((((decide ((x_1.2) = (0 : Int))) && (decide ((x_3.2) = (0 : Int)))) && (decide ((x_5.2) = (0 : Int)))) && (x_9.1 == ([120] : List UInt8))) && x_9.2) && (decide ((x_11.1) = (1 : Int)))) && (decide ((x_11.2) = (1 : Int)))) && (decide ((x_13.2) = (0 : Int)))) && (decide ((x_15.2) = (0 : Int))))) rfl rfl ⟨⟨rfl, rfl⟩, ?_⟩)
  refine RQ.gd (v := .d (.agg (cDB (x_15.1)))) (T := [1]) (some 86) rfl rfl (by repeat (first | exact trivial | refine ⟨fun q => by first | rfl | exact q | exact cda q | exact cdb q, ?_⟩)) (fun hg => sf_ldV (v := .agg [.d (.slice ((((x_15.1).fIndex).fpages).map (eL eRow)))]) rfl TT.tyA_28 rfl rfl ⟨⟨by simp, by simp⟩, rfl⟩ ⟨⟨rfl, rfl, rfl⟩, rfl, (Imp.toD rfl)⟩) (fun _ i hi => by simp only [List.mem_singleton] at hi; subst hi; decide) ?_
  obtain ⟨x_17, hx_18, h⟩ := bO h
  refine RQ.gd (v := .d (.agg (x_17.1.map byteD))) (T := []) (some 87) rfl rfl (by repeat (first | exact trivial | refine ⟨fun q => by first | rfl | exact q | exact cda q | exact cdb q, ?_⟩)) (fun hg => sf_call rfl rfl TT.enters_10 rfl (sim_ref03_Sum ([120] : List UInt8) _ (bT hx_18 hg)) g3) nm0 ?_
  obtain ⟨x_19, hx_20, h⟩ := bO h
  refine RQ.gd (v := .d (.slice (x_19.map eI))) (T := []) (some 88) rfl rfl (by repeat (first | exact trivial | refine ⟨fun q => by first | rfl | exact q | exact cda q | exact cdb q, ?_⟩)) (fun hg => sf_call rfl rfl TT.enters_14 rfl (sim_nodedb_DB_Held (x_15.1) x_17 _ (bT hx_20 hg)) g3) nm0 ?_
  refine RQ.gd (v := pI (x_19.length : Int)) (T := []) (some 89) rfl rfl (by repeat (first | exact trivial | refine ⟨fun q => by first | rfl | exact q | exact cda q | exact cdb q, ?_⟩)) (fun hg => sf_lenL (en := eI) (l := x_19) rfl TT.under_52 rfl g3) nm0 ?_
  refine RQ.gd (v := pB (decide ((x_19.length : Int) = (1 : Int)))) (T := []) (some 90) rfl rfl (by repeat (first | exact trivial | refine ⟨fun q => by first | rfl | exact q | exact cda q | exact cdb q, ?_⟩)) (fun hg => sf_eq (a := (x_19.length : Int)) (b := (1 : Int)) rfl rfl rfl g3) nm0 ?_
  refine RQ.st (some 91) rfl rfl (sf_pickA rfl rfl rfl rfl (fun hb => by rw [hb]; rfl) (fun _ => rfl) ⟨⟨rfl, rfl⟩, ?_⟩)
  refine RQ.st (some 92) rfl rfl (sf_move (v := pB ((((((((((decide ((x_1.2) = (0 : Int))) && (decide ((x_3.2) = (0 : Int)))) && (decide ((x_5.2) = (0 : Int)))) && (x_9.1 == ([120] : List UInt8))) && x_9.2) && (decide ((x_11.1) = (1 : Int)))) && (decide ((x_11.2) = (1 : Int)))) && (decide ((x_13.2) = (0 : Int)))) && (decide ((x_15.2) = (0 : Int)))) && (decide ((x_19.length : Int) = (1 : Int))))) rfl rfl ⟨⟨rfl, rfl⟩, ?_⟩)
  refine RQ.gd (v := .vptr 0 0) (T := []) (some 93) rfl rfl (by repeat (first | exact trivial | refine ⟨fun q => by first | rfl | exact q | exact cda q | exact cdb q, ?_⟩)) (fun hg => sf_fldV rfl TT.fldA_28_0 (by decide) rfl g3) nm0 ?_
  refine RQ.gd (v := .d (.agg (cIndex ((x_3.1).fIndex)))) (T := [0]) (some 94) rfl rfl (by repeat (first | exact trivial | refine ⟨fun q => by first | rfl | exact q | exact cda q | exact cdb q, ?_⟩)) (fun hg => sf_ldV (v := .agg [.d (.slice ((((x_3.1).fIndex).fpages).map (eL eRow)))]) rfl TT.tyA_26 rfl rfl ⟨⟨by simp, by simp⟩, rfl⟩ ⟨⟨rfl, rfl, rfl⟩, rfl, (Imp.toD rfl)⟩) (fun _ i hi => by simp only [List.mem_singleton] at hi; subst hi; decide) ?_
  obtain ⟨x_21, hx_22, h⟩ := bO h
  refine RQ.gd (v := .d (.slice (x_21.map eRow))) (T := []) (some 95) rfl rfl (by repeat (first | exact trivial | refine ⟨fun q => by first | rfl | exact q | exact cda q | exact cdb q, ?_⟩)) (fun hg => sf_call rfl rfl TT.enters_9 rfl (sim_pindex_Index_All ((x_3.1).fIndex) _ (bT hx_22 hg)) g3) nm0 ?_
  refine RQ.gd (v := pI (x_21.length : Int)) (T := []) (some 96) rfl rfl (by repeat (first | exact trivial | refine ⟨fun q => by first | rfl | exact q | exact cda q | exact cdb q, ?_⟩)) (fun hg => sf_lenL (en := eRow) (l := x_21) rfl TT.under_38 rfl g3) nm0 ?_
  refine RQ.gd (v := pB (decide ((x_21.length : Int) = (2 : Int)))) (T := []) (some 97) rfl rfl (by repeat (first | exact trivial | refine ⟨fun q => by first | rfl | exact q | exact cda q | exact cdb q, ?_⟩)) (fun hg => sf_eq (a := (x_21.length : Int)) (b := (2 : Int)) rfl rfl rfl g3) nm0 ?_
  refine RQ.st (some 98) rfl rfl (sf_pickA rfl rfl rfl rfl (fun hb => by rw [hb]; rfl) (fun _ => rfl) ⟨⟨rfl, rfl⟩, ?_⟩)
  refine RQ.st (some 0) rfl rfl (sf_assign (v := pB (((((((((((decide ((x_1.2) = (0 : Int))) && (decide ((x_3.2) = (0 : Int)))) && (decide ((x_5.2) = (0 : Int)))) && (x_9.1 == ([120] : List UInt8))) && x_9.2) && (decide ((x_11.1) = (1 : Int)))) && (decide ((x_11.2) = (1 : Int)))) && (decide ((x_13.2) = (0 : Int)))) && (decide ((x_15.2) = (0 : Int)))) && (decide ((x_19.length : Int) = (1 : Int)))) && (decide ((x_21.length : Int) = (2 : Int))))) rfl rfl ⟨⟨rfl, rfl⟩, ?_⟩)
  refine RQ.nil (nrm ?_)
  refine QW.ret zL ?_
  obtain rfl := sO h
  exact Ends.one (.inr rfl) rfl (ResIs.tmp rfl) rfl rfl
inductive C_law49_NodedbTexts where
  | S
  | L1 (v6 : Int) (v5_0_2 : (List (List Row)))
  | J2 (v6_4 : Int) (v5_0_5 : (List (List Row)))
  | L3 (v14_2 : Int) (v15_2 : (List Row)) (v16 : Int) (v13_0_2 : (List (List Row)))
noncomputable def step_law49_NodedbTexts (l0 : (List Act)) (s1 : (List UInt8)) : C_law49_NodedbTexts → Option (C_law49_NodedbTexts ⊕ Bool)
  | .S =>
    (bif (decide ((1500 : Int) < (s1.length : Int))) then
    ((g_law49_awake ).bind fun (x_2 : Bool) =>
    some (.inr x_2))
    else
    some (.inl (.L1 (0) ([] : (List (List Row))))))
  | .L1 v6 v5_0_2 =>
    (bif ((decide (v6 < (l0.length : Int))) && (decide (v6 < (30 : Int)))) then
    gO (0 ≤ v6 ∧ v6 < (l0.length : Int)) (
    (bif (decide ((200 : Int) < (((idx l0 v6).fS).length : Int))) then
    ((g_law49_awake ).bind fun (x_8 : Bool) =>
    some (.inr x_8))
    else
    gO (0 ≤ v6 ∧ v6 < (l0.length : Int)) (
    gO (0 ≤ v6 ∧ v6 < (l0.length : Int)) (
    ((g_nodedb_DB_Hold (⟨(⟨v5_0_2⟩ : Index)⟩ : DB) ((idx l0 v6).fEpoch) ((idx l0 v6).fS)).bind fun (x_12 : (DB × Int)) =>
    (bif (decide ((x_12.2) = (0 : Int))) then
    some (.inl (.J2 v6 (((x_12.1).fIndex).fpages)))
    else
    some (.inl (.J2 v6 v5_0_2))))))))
    else
    ((g_pindex_Index_Text (⟨v5_0_2⟩ : Index)).bind fun (x_17 : ((List UInt8) × Int)) =>
    ((g_nodedb_Read (x_17.1)).bind fun (x_19 : (DB × Int)) =>
    ((bif (((!decide ((x_17.2) = (0 : Int))) || (!decide ((x_19.2) = (0 : Int)))) == false) then g_pindex_Index_All ((x_19.1).fIndex) else some default).bind fun (x_21 : (List Row)) =>
    ((bif (((!decide ((x_17.2) = (0 : Int))) || (!decide ((x_19.2) = (0 : Int)))) == false) then g_pindex_Index_All (⟨v5_0_2⟩ : Index) else some default).bind fun (x_23 : (List Row)) =>
    ((bif (((!decide ((x_17.2) = (0 : Int))) || (!decide ((x_19.2) = (0 : Int)))) == false) then g_ref47_Same x_21 x_23 else some default).bind fun (x_25 : Bool) =>
    (bif (((!decide ((x_17.2) = (0 : Int))) || (!decide ((x_19.2) = (0 : Int)))) || (!x_25)) then
    some (.inr false)
    else
    ((g_nodedb_Read s1).bind fun (x_28 : (DB × Int)) =>
    ((g_pindex_Index_All ((x_28.1).fIndex)).bind fun (x_30 : (List Row)) =>
    some (.inl (.L3 (x_28.2) x_30 (0) (((x_28.1).fIndex).fpages))))))))))))
  | .J2 v6_4 v5_0_5 =>
    gO (inI (v6_4 + (1 : Int))) (
    some (.inl (.L1 (v6_4 + (1 : Int)) v5_0_5)))
  | .L3 v14_2 v15_2 v16 v13_0_2 =>
    (bif (decide (v16 < (v15_2.length : Int))) then
    gO (0 ≤ v16 ∧ v16 < (v15_2.length : Int)) (
    ((g_ref03_Sum ((idx v15_2 v16).fBody)).bind fun (x_35 : (Arr 32 UInt8)) =>
    gO (0 ≤ v16 ∧ v16 < (v15_2.length : Int)) (
    (bif (!(x_35.1 == ((idx v15_2 v16).fSum).1)) then
    some (.inr false)
    else
    gO (inI (v16 + (1 : Int))) (
    some (.inl (.L3 v14_2 v15_2 (v16 + (1 : Int)) v13_0_2)))))))
    else
    ((g_pindex_Index_Text (⟨v13_0_2⟩ : Index)).bind fun (x_40 : ((List UInt8) × Int)) =>
    ((g_law49_awake ).bind fun (x_42 : Bool) =>
    some (.inr (x_42 && (((!decide (v14_2 = (0 : Int))) && (decide ((v15_2.length : Int) = (0 : Int)))) || ((decide (v14_2 = (0 : Int))) && (x_40.1 == s1))))))))
noncomputable def g_law49_NodedbTexts (l0 : (List Act)) (s1 : (List UInt8)) : Option Bool := theC (step_law49_NodedbTexts l0 s1) .S
theorem sim_law49_NodedbTexts (l0 : (List Act)) (s1 : (List UInt8)) (r : Bool) (h : g_law49_NodedbTexts l0 s1 = some r) : Fun Try.prog 3 [.slice (l0.map eAct), .val (sV s1)] (.val (.bool r)) := by
  refine Fun.of_bodyQ Try.func3 rfl (by simp [Try.ntmps3]) ?_
  rw [Try.ntmps3, TT.res_3]
  refine QW.view (s' := ⟨tab [(0, .d (.slice (l0.map eAct))), (1, pS s1)], tabH [], 0, []⟩) (View.init (by rfl)) zL ?_
  replace h := theC_get h
  obtain ⟨_, h⟩ := h
  obtain ⟨k_0, rfl, h9⟩ := run_succ h; replace h := h9; clear h9; rw [step_law49_NodedbTexts] at h
  refine sR ?_
  refine xz 4 (pB false) ?_
  refine QW.seq ?_
  refine sR ?_
  refine xm 19 (pS s1) ?_
  refine xs 20 rfl (sf_lenS (l := s1) rfl TT.under_9 rfl ?_)
  refine xs 21 rfl (sf_gtr (a := (s1.length : Int)) (b := (1500 : Int)) rfl rfl rfl ?_)
  refine XK.nz ?_
  refine QW.cond (t := (decide ((1500 : Int) < (s1.length : Int)))) rfl zL (fun hb_1 => ?_) (fun hb_1 => ?_)
  · replace h := bGT h hb_1
    refine sR ?_
    obtain ⟨x_2, hx_3, h⟩ := bG h
    refine xs 22 rfl (sf_call rfl rfl TT.enters_4 rfl (sim_law49_awake  _ hx_3) ?_)
    refine xz 4 (pB x_2) ?_
    refine QW.ret zL (thR ?_)
    obtain rfl := sG h
    exact Ends.one (.inr rfl) rfl (ResIs.tmp rfl) rfl rfl
  · replace h := bGF h hb_1
    refine QW.skip zL (nrm ?_)
    refine sR ?_
    refine xs 5 rfl (sf_alloc (l := [.full (([] : (List (List Row))).map (eL eRow))]) rfl TT.zeroA_28 rfl rfl ?_)
    refine XK.nz ?_
    refine QW.seq ?_
    refine sR ?_
    refine xz 6 (pI (0)) ?_
    refine QW.block ?_
    refine QW.loop (fun k σ => ∃ v6 : Int, ∃ v5_0_2 : (List (List Row)), k ≤ k_0 ∧ run (step_law49_NodedbTexts l0 s1) k (.L1 v6 v5_0_2) = some r ∧ σ = ⟨tab [(0, .d (.slice (l0.map eAct))), (1, pS s1), (5, .vptr 0 0), (6, pI v6)], tabH [.var [.d (.slice (v5_0_2.map (eL eRow)))]], 1, []⟩) k_0 zL ⟨⟨tab [(0, .d (.slice (l0.map eAct))), (1, pS s1), (5, .vptr 0 0), (6, pI (0))], tabH [.var [.d (.slice (([] : (List (List Row))).map (eL eRow)))]], 1, []⟩, View.trans (View.castV 0 0 rfl rfl rfl zL) (View.mk 1 [0] _ _ _ rfl rfl (by decide) (iC (iC (iC (iC trivial)))) (And.intro rfl trivial) rfl zL rfl), 0, ([] : (List (List Row))), Nat.le_refl _, jG h, rfl⟩ ?_
    rintro k_4s _ ⟨v6, v5_0_2, k_4h, h, rfl⟩
    obtain ⟨k_4, rfl, h9⟩ := run_succ h; replace h := h9; clear h9; rw [step_law49_NodedbTexts] at h
    refine QW.seq ?_
    refine sR ?_
    refine xm 23 (pI v6) ?_
    refine xm 24 (.d (.slice (l0.map eAct))) ?_
    refine xs 25 rfl (sf_lenL (en := eAct) (l := l0) rfl TT.under_22 rfl ?_)
    refine xs 26 rfl (sf_lss (a := v6) (b := (l0.length : Int)) rfl rfl rfl ?_)
    refine xm 27 (pB (decide (v6 < (l0.length : Int)))) ?_
    refine xg 28 (pI v6) rfl rfl (fun hg => sf_move (v := pI v6) rfl rfl g3) ?_
    refine xg 29 (pB (decide (v6 < (30 : Int)))) rfl rfl (fun hg => sf_lss (a := v6) (b := (30 : Int)) rfl rfl rfl g3) ?_
    refine xs 30 rfl (sf_pickA rfl rfl rfl rfl (fun hb => by rw [hb]; rfl) (fun _ => rfl) ?_)
    refine XK.nz ?_
    refine QW.cond (t := ((decide (v6 < (l0.length : Int))) && (decide (v6 < (30 : Int))))) rfl zL (fun hb_5 => ?_) (fun hb_5 => ?_)
    · replace h := bGT h hb_5
      refine QW.skip zL (nrm ?_)
      refine QW.seqI (fun s' => ∃ v6_4 : Int, ∃ v5_0_5 : (List (List Row)), ∃ k : Nat, k ≤ k_4 ∧ run (step_law49_NodedbTexts l0 s1) k (.J2 v6_4 v5_0_5) = some r ∧ s' = ⟨tab [(0, .d (.slice (l0.map eAct))), (1, pS s1), (5, .vptr 0 0), (6, pI v6_4)], tabH [.var [.d (.slice (v5_0_5.map (eL eRow)))]], 1, []⟩) ?_ ?_
      · refine QW.block ?_
        refine QW.seq ?_
        refine sR ?_
        refine xm 33 (.d (.slice (l0.map eAct))) ?_
        refine xm 34 (pI v6) ?_
        obtain ⟨c_6, h⟩ := gG h
        refine xs 35 rfl (sf_idxA (l := l0) (i := v6) rfl TT.slcA_22 lay_Act rfl rfl c_6 ?_)
        refine xs 36 rfl (sf_fldC rfl TT.fldA_30_2 (by decide) rfl ?_)
        refine xs 37 rfl (sf_ldC (d := .val (sV ((idx l0 v6).fS))) rfl TT.tyA_9 rfl (LdC.one) ?_)
        refine xs 38 rfl (sf_lenS (l := (idx l0 v6).fS) rfl TT.under_9 rfl ?_)
        refine xs 39 rfl (sf_gtr (a := (((idx l0 v6).fS).length : Int)) (b := (200 : Int)) rfl rfl rfl ?_)
        refine XK.nz ?_
        refine QW.cond (t := (decide ((200 : Int) < (((idx l0 v6).fS).length : Int)))) rfl zL (fun hb_7 => ?_) (fun hb_7 => ?_)
        · replace h := bGT h hb_7
          refine sR ?_
          obtain ⟨x_8, hx_9, h⟩ := bG h
          refine xs 40 rfl (sf_call rfl rfl TT.enters_4 rfl (sim_law49_awake  _ hx_9) ?_)
          refine xz 4 (pB x_8) ?_
          refine QW.ret zL (thR (blR (thR (thR (blR (thR ?_))))))
          obtain rfl := sG h
          exact Ends.one (.inr rfl) rfl (ResIs.tmp rfl) rfl rfl
        · replace h := bGF h hb_7
          refine QW.skip zL (nrm ?_)
          refine QW.seq ?_
          refine QW.region zL (PW.regK (id := 9) mixedX (M := _) rfl (by kernel_rfl) ?_)
          refine RK.as (some 42) rfl rfl (sf_ldV (v := .agg [.d (.slice (v5_0_2.map (eL eRow)))]) rfl TT.tyA_28 rfl rfl ⟨⟨by simp, by simp⟩, rfl⟩ ⟨.d (.agg (cDB (⟨(⟨v5_0_2⟩ : Index)⟩ : DB))), (Imp.toD rfl), ?_⟩)
          refine RK.st (some 43) rfl rfl (sf_move (v := .d (.slice (l0.map eAct))) rfl rfl ?_)
          refine RK.st (some 44) rfl rfl (sf_move (v := pI v6) rfl rfl ?_)
          obtain ⟨c_10, h⟩ := gG h
          refine RK.st (some 45) rfl rfl (sf_idxA (l := l0) (i := v6) rfl TT.slcA_22 lay_Act rfl rfl c_10 ?_)
          refine RK.st (some 46) rfl rfl (sf_fldC rfl TT.fldA_30_1 (by decide) rfl ?_)
          refine RK.st (some 47) rfl rfl (sf_ldC (d := .val (.int .i64 ((idx l0 v6).fEpoch))) rfl TT.tyA_3 rfl (LdC.one) ?_)
          refine RK.st (some 48) rfl rfl (sf_move (v := .d (.slice (l0.map eAct))) rfl rfl ?_)
          refine RK.st (some 49) rfl rfl (sf_move (v := pI v6) rfl rfl ?_)
          obtain ⟨c_11, h⟩ := gG h
          refine RK.st (some 50) rfl rfl (sf_idxA (l := l0) (i := v6) rfl TT.slcA_22 lay_Act rfl rfl c_11 ?_)
          refine RK.st (some 51) rfl rfl (sf_fldC rfl TT.fldA_30_2 (by decide) rfl ?_)
          refine RK.st (some 52) rfl rfl (sf_ldC (d := .val (sV ((idx l0 v6).fS))) rfl TT.tyA_9 rfl (LdC.one) ?_)
          obtain ⟨x_12, hx_13, h⟩ := bG h
          refine RK.st (some 53) rfl rfl (sf_call rfl rfl TT.enters_5 rfl (sim_nodedb_DB_Hold (⟨(⟨v5_0_2⟩ : Index)⟩ : DB) ((idx l0 v6).fEpoch) ((idx l0 v6).fS) _ hx_13) ?_)
          refine RK.st (some 41) rfl rfl (sf_move (v := .d (.tuple [.agg (cDB (x_12.1)), .val (.int .i64 (x_12.2))])) rfl rfl ?_)
          refine RK.st (some 54) rfl rfl (sf_extract rfl rfl rfl ?_)
          refine RK.st (some 55) rfl rfl (sf_extract rfl rfl rfl ?_)
          refine RK.st (some 7) rfl rfl (sf_alloc (l := [.full (([] : (List (List Row))).map (eL eRow))]) rfl TT.zeroA_28 rfl rfl ?_)
          refine RK.st none rfl rfl (sf_stV (l' := [.d (.slice ((((x_12.1).fIndex).fpages).map (eL eRow)))]) rfl TT.tyA_28 rfl rfl rfl rfl rfl rfl (by simp) rfl ?_)
          refine RK.st (some 8) rfl rfl (sf_assign (v := pI (x_12.2)) rfl rfl ?_)
          refine RK.nil ⟨RecsOK.comp (by rfl), (nrm ?_)⟩
          refine QW.seq ?_
          refine QW.view (s' := ⟨tab [(0, .d (.slice (l0.map eAct))), (1, pS s1), (5, .vptr 0 0), (6, pI v6), (7, .vptr 1 0), (8, pI (x_12.2))], tabH [.var [.d (.slice (v5_0_2.map (eL eRow)))], .var [.d (.slice ((((x_12.1).fIndex).fpages).map (eL eRow)))]], 2, []⟩) (View.mk 2 [0, 1] _ _ _ rfl rfl (by decide) (iC (iC (iC (iC (iC (iC trivial)))))) (And.intro rfl (And.intro rfl trivial)) rfl zL rfl) zL ?_
          refine rG ?_
          refine xm 56 (pI (x_12.2)) ?_
          refine xs 57 rfl (sf_eq (a := (x_12.2)) (b := (0 : Int)) rfl rfl rfl ?_)
          refine XK.nz ?_
          refine QW.cond (t := (decide ((x_12.2) = (0 : Int)))) rfl zL (fun hb_14 => ?_) (fun hb_14 => ?_)
          · replace h := bGT h hb_14
            refine rG ?_
            refine XK.as (some 58) rfl rfl (sf_ldV (v := .agg [.d (.slice ((((x_12.1).fIndex).fpages).map (eL eRow)))]) rfl TT.tyA_28 rfl rfl ⟨⟨by simp, by simp⟩, rfl⟩ ⟨.d (.agg (cDB (x_12.1))), (Imp.toD rfl), ?_⟩)
            refine XK.st none rfl rfl (sf_stV (l' := [.d (.slice ((((x_12.1).fIndex).fpages).map (eL eRow)))]) rfl TT.tyA_28 rfl rfl rfl rfl rfl rfl (by simp) rfl ?_)
            refine XK.nil (blN (nrm ?_))
            exact ⟨⟨tab [(0, .d (.slice (l0.map eAct))), (1, pS s1), (5, .vptr 0 0), (6, pI v6)], tabH [.var [.d (.slice ((((x_12.1).fIndex).fpages).map (eL eRow)))]], 1, []⟩, View.mk 1 [0] _ _ _ rfl rfl (by decide) (iC (iC (iC (iC trivial)))) (And.intro rfl trivial) rfl zL rfl, v6, ((x_12.1).fIndex).fpages, k_4, by omega, jG h, rfl⟩
          · replace h := bGF h hb_14
            refine QW.skip zL (blN (nrm ?_))
            exact ⟨⟨tab [(0, .d (.slice (l0.map eAct))), (1, pS s1), (5, .vptr 0 0), (6, pI v6)], tabH [.var [.d (.slice (v5_0_2.map (eL eRow)))]], 1, []⟩, View.mk 1 [0] _ _ _ rfl rfl (by decide) (iC (iC (iC (iC trivial)))) (And.intro rfl trivial) rfl zL rfl, v6, v5_0_2, k_4, by omega, jG h, rfl⟩
      · rintro _ ⟨v6_4, v5_0_5, k_15s, k_15h, h, rfl⟩
        obtain ⟨k_15, rfl, h9⟩ := run_succ h; replace h := h9; clear h9; rw [step_law49_NodedbTexts] at h
        refine rG ?_
        refine xm 31 (pI v6_4) ?_
        obtain ⟨c_16, h⟩ := gG h
        refine xs 32 rfl (sf_add (a := v6_4) (b := (1 : Int)) rfl rfl rfl c_16 ?_)
        refine xz 6 (pI (v6_4 + (1 : Int))) ?_
        exact ⟨k_15, by omega, ⟨tab [(0, .d (.slice (l0.map eAct))), (1, pS s1), (5, .vptr 0 0), (6, pI (v6_4 + (1 : Int)))], tabH [.var [.d (.slice (v5_0_5.map (eL eRow)))]], 1, []⟩, View.mk 1 [0] _ _ _ rfl rfl (by decide) (iC (iC (iC (iC trivial)))) (And.intro rfl trivial) rfl zL rfl, (v6_4 + (1 : Int)), v5_0_5, by omega, jG h, rfl⟩
    · replace h := bGF h hb_5
      refine QW.exit zL (thX (thX (exE (nrm ?_))))
      refine sR ?_
      refine xs 60 rfl (sf_fldV rfl TT.fldA_28_0 (by decide) rfl ?_)
      refine XK.as (some 61) rfl rfl (sf_ldV (v := .agg [.d (.slice (v5_0_2.map (eL eRow)))]) rfl TT.tyA_26 rfl rfl ⟨⟨by simp, by simp⟩, rfl⟩ ⟨.d (.agg (cIndex (⟨v5_0_2⟩ : Index))), (Imp.toD rfl), ?_⟩)
      obtain ⟨x_17, hx_18, h⟩ := bG h
      refine xs 62 rfl (sf_call rfl rfl TT.enters_6 rfl (sim_pindex_Index_Text (⟨v5_0_2⟩ : Index) _ hx_18) ?_)
      refine xm 59 (.d (.tuple [.val (sV (x_17.1)), .val (.int .i64 (x_17.2))])) ?_
      refine xs 63 rfl (sf_extract rfl rfl rfl ?_)
      refine xs 64 rfl (sf_extract rfl rfl rfl ?_)
      refine xa 9 (pS (x_17.1)) ?_
      refine xz 10 (pI (x_17.2)) ?_
      refine sR ?_
      refine xm 66 (pS (x_17.1)) ?_
      obtain ⟨x_19, hx_20, h⟩ := bG h
      refine xs 67 rfl (sf_call rfl rfl TT.enters_7 rfl (sim_nodedb_Read (x_17.1) _ hx_20) ?_)
      refine xm 65 (.d (.tuple [.agg (cDB (x_19.1)), .val (.int .i64 (x_19.2))])) ?_
      refine xs 68 rfl (sf_extract rfl rfl rfl ?_)
      refine xs 69 rfl (sf_extract rfl rfl rfl ?_)
      refine xs 11 rfl (sf_alloc (l := [.full (([] : (List (List Row))).map (eL eRow))]) rfl TT.zeroA_28 rfl rfl ?_)
      refine XK.st none rfl rfl (sf_stV (l' := [.d (.slice ((((x_19.1).fIndex).fpages).map (eL eRow)))]) rfl TT.tyA_28 rfl rfl rfl rfl rfl rfl (by simp) rfl ?_)
      refine xz 12 (pI (x_19.2)) ?_
      refine QW.seq ?_
      refine QW.seq ?_
      refine QW.view (s' := ⟨tab [(1, pS s1), (5, .vptr 0 0), (10, pI (x_17.2)), (11, .vptr 1 0), (12, pI (x_19.2))], tabH [.var [.d (.slice (v5_0_2.map (eL eRow)))], .var [.d (.slice ((((x_19.1).fIndex).fpages).map (eL eRow)))]], 2, []⟩) (View.mk 2 [0, 1] _ _ _ rfl rfl (by decide) (iC (iC (iC (iC (iC trivial))))) (And.intro rfl (And.intro rfl trivial)) rfl zL rfl) zL ?_
      refine QW.region zL (PW.regQ (id := 14) mixedX (M := _) rfl (by kernel_rfl) ?_)
      refine RQ.st (some 70) rfl rfl (sf_move (v := pI (x_17.2)) rfl rfl ⟨⟨rfl, rfl⟩, ?_⟩)
      refine RQ.st (some 71) rfl rfl (sf_ne (a := (x_17.2)) (b := (0 : Int)) rfl rfl rfl ⟨⟨rfl, rfl⟩, ?_⟩)
      refine RQ.st (some 72) rfl rfl (sf_move (v := pB (!decide ((x_17.2) = (0 : Int)))) rfl rfl ⟨⟨rfl, rfl⟩, ?_⟩)
      refine RQ.gd (v := pI (x_19.2)) (T := []) (some 73) rfl rfl (by repeat (first | exact trivial | refine ⟨fun q => by first | rfl | exact q | exact cda q | exact cdb q, ?_⟩)) (fun hg => sf_move (v := pI (x_19.2)) rfl rfl g3) nm0 ?_
      refine RQ.gd (v := pB (!decide ((x_19.2) = (0 : Int)))) (T := []) (some 74) rfl rfl (by repeat (first | exact trivial | refine ⟨fun q => by first | rfl | exact q | exact cda q | exact cdb q, ?_⟩)) (fun hg => sf_ne (a := (x_19.2)) (b := (0 : Int)) rfl rfl rfl g3) nm0 ?_
      refine RQ.st (some 75) rfl rfl (sf_pickO rfl rfl rfl rfl (fun _ => rfl) (fun hb => by rw [hb]; rfl) ⟨⟨rfl, rfl⟩, ?_⟩)
      refine RQ.st (some 76) rfl rfl (sf_move (v := pB ((!decide ((x_17.2) = (0 : Int))) || (!decide ((x_19.2) = (0 : Int))))) rfl rfl ⟨⟨rfl, rfl⟩, ?_⟩)
      refine RQ.gd (v := .vptr 1 0) (T := []) (some 77) rfl rfl (by repeat (first | exact trivial | refine ⟨fun q => by first | rfl | exact q | exact cda q | exact cdb q, ?_⟩)) (fun hg => sf_fldV rfl TT.fldA_28_0 (by decide) rfl g3) nm0 ?_
      refine RQ.gd (v := .d (.agg (cIndex ((x_19.1).fIndex)))) (T := [1]) (some 78) rfl rfl (by repeat (first | exact trivial | refine ⟨fun q => by first | rfl | exact q | exact cda q | exact cdb q, ?_⟩)) (fun hg => sf_ldV (v := .agg [.d (.slice ((((x_19.1).fIndex).fpages).map (eL eRow)))]) rfl TT.tyA_26 rfl rfl ⟨⟨by simp, by simp⟩, rfl⟩ ⟨⟨rfl, rfl, rfl⟩, rfl, (Imp.toD rfl)⟩) (fun _ i hi => by simp only [List.mem_singleton] at hi; subst hi; decide) ?_
      obtain ⟨x_21, hx_22, h⟩ := bG h
      refine RQ.gd (v := .d (.slice (x_21.map eRow))) (T := []) (some 79) rfl rfl (by repeat (first | exact trivial | refine ⟨fun q => by first | rfl | exact q | exact cda q | exact cdb q, ?_⟩)) (fun hg => sf_call rfl rfl TT.enters_9 rfl (sim_pindex_Index_All ((x_19.1).fIndex) _ (bT hx_22 hg)) g3) nm0 ?_
      refine RQ.gd (v := .vptr 0 0) (T := []) (some 80) rfl rfl (by repeat (first | exact trivial | refine ⟨fun q => by first | rfl | exact q | exact cda q | exact cdb q, ?_⟩)) (fun hg => sf_fldV rfl TT.fldA_28_0 (by decide) rfl g3) nm0 ?_
      refine RQ.gd (v := .d (.agg (cIndex (⟨v5_0_2⟩ : Index)))) (T := [0]) (some 81) rfl rfl (by repeat (first | exact trivial | refine ⟨fun q => by first | rfl | exact q | exact cda q | exact cdb q, ?_⟩)) (fun hg => sf_ldV (v := .agg [.d (.slice (v5_0_2.map (eL eRow)))]) rfl TT.tyA_26 rfl rfl ⟨⟨by simp, by simp⟩, rfl⟩ ⟨⟨rfl, rfl, rfl⟩, rfl, (Imp.toD rfl)⟩) (fun _ i hi => by simp only [List.mem_singleton] at hi; subst hi; decide) ?_
      obtain ⟨x_23, hx_24, h⟩ := bG h
      refine RQ.gd (v := .d (.slice (x_23.map eRow))) (T := []) (some 82) rfl rfl (by repeat (first | exact trivial | refine ⟨fun q => by first | rfl | exact q | exact cda q | exact cdb q, ?_⟩)) (fun hg => sf_call rfl rfl TT.enters_9 rfl (sim_pindex_Index_All (⟨v5_0_2⟩ : Index) _ (bT hx_24 hg)) g3) nm0 ?_
      obtain ⟨x_25, hx_26, h⟩ := bG h
      refine RQ.gd (v := pB x_25) (T := []) (some 83) rfl rfl (by repeat (first | exact trivial | refine ⟨fun q => by first | rfl | exact q | exact cda q | exact cdb q, ?_⟩)) (fun hg => sf_call rfl rfl TT.enters_8 rfl (sim_ref47_Same x_21 x_23 _ (bT hx_26 hg)) g3) nm0 ?_
      refine RQ.gd (v := pB (!x_25)) (T := []) (some 84) rfl rfl (by repeat (first | exact trivial | refine ⟨fun q => by first | rfl | exact q | exact cda q | exact cdb q, ?_⟩)) (fun hg => sf_not rfl rfl g3) nm0 ?_
      refine RQ.st (some 85) rfl rfl (sf_pickO rfl rfl rfl rfl (fun _ => rfl) (fun hb => by rw [hb]; rfl) ⟨⟨rfl, rfl⟩, ?_⟩)
      refine RQ.nil (nrm ?_)
      refine QW.cond (t := (((!decide ((x_17.2) = (0 : Int))) || (!decide ((x_19.2) = (0 : Int)))) || (!x_25))) rfl zL (fun hb_27 => ?_) (fun hb_27 => ?_)
      · replace h := bGT h hb_27
        refine sR ?_
        refine xz 4 (pB false) ?_
        refine QW.ret zL (thR ?_)
        obtain rfl := sG h
        exact Ends.one (.inr rfl) rfl (ResIs.tmp rfl) rfl rfl
      · replace h := bGF h hb_27
        refine QW.skip zL (nrm ?_)
        refine sR ?_
        refine xm 87 (pS s1) ?_
        obtain ⟨x_28, hx_29, h⟩ := bG h
        refine xs 88 rfl (sf_call rfl rfl TT.enters_7 rfl (sim_nodedb_Read s1 _ hx_29) ?_)
        refine xm 86 (.d (.tuple [.agg (cDB (x_28.1)), .val (.int .i64 (x_28.2))])) ?_
        refine xs 89 rfl (sf_extract rfl rfl rfl ?_)
        refine xs 90 rfl (sf_extract rfl rfl rfl ?_)
        refine xs 13 rfl (sf_alloc (l := [.full (([] : (List (List Row))).map (eL eRow))]) rfl TT.zeroA_28 rfl rfl ?_)
        refine XK.st none rfl rfl (sf_stV (l' := [.d (.slice ((((x_28.1).fIndex).fpages).map (eL eRow)))]) rfl TT.tyA_28 rfl rfl rfl rfl rfl rfl (by simp) rfl ?_)
        refine xz 14 (pI (x_28.2)) ?_
        refine sR ?_
        refine xs 91 rfl (sf_fldV rfl TT.fldA_28_0 (by decide) rfl ?_)
        refine XK.as (some 92) rfl rfl (sf_ldV (v := .agg [.d (.slice ((((x_28.1).fIndex).fpages).map (eL eRow)))]) rfl TT.tyA_26 rfl rfl ⟨⟨by simp, by simp⟩, rfl⟩ ⟨.d (.agg (cIndex ((x_28.1).fIndex))), (Imp.toD rfl), ?_⟩)
        obtain ⟨x_30, hx_31, h⟩ := bG h
        refine xs 93 rfl (sf_call rfl rfl TT.enters_9 rfl (sim_pindex_Index_All ((x_28.1).fIndex) _ hx_31) ?_)
        refine xz 15 (.d (.slice (x_30.map eRow))) ?_
        refine QW.seq ?_
        refine sR ?_
        refine xz 16 (pI (0)) ?_
        refine QW.block ?_
        refine QW.loop (fun k σ => ∃ v14_2 : Int, ∃ v15_2 : (List Row), ∃ v16 : Int, ∃ v13_0_2 : (List (List Row)), k ≤ k_4 ∧ run (step_law49_NodedbTexts l0 s1) k (.L3 v14_2 v15_2 v16 v13_0_2) = some r ∧ σ = ⟨tab [(1, pS s1), (13, .vptr 0 0), (14, pI v14_2), (15, .d (.slice (v15_2.map eRow))), (16, pI v16)], tabH [.var [.d (.slice (v13_0_2.map (eL eRow)))]], 1, []⟩) k_4 zL ⟨⟨tab [(1, pS s1), (13, .vptr 0 0), (14, pI (x_28.2)), (15, .d (.slice (x_30.map eRow))), (16, pI (0))], tabH [.var [.d (.slice ((((x_28.1).fIndex).fpages).map (eL eRow)))]], 1, []⟩, View.mk 1 [2] _ _ _ rfl rfl (by decide) (iC (iC (iC (iC (iC trivial))))) (And.intro rfl trivial) rfl zL rfl, x_28.2, x_30, 0, ((x_28.1).fIndex).fpages, Nat.le_refl _, jG h, rfl⟩ ?_
        rintro k_32s _ ⟨v14_2, v15_2, v16, v13_0_2, k_32h, h, rfl⟩
        obtain ⟨k_32, rfl, h9⟩ := run_succ h; replace h := h9; clear h9; rw [step_law49_NodedbTexts] at h
        refine QW.seq ?_
        refine sR ?_
        refine xm 94 (pI v16) ?_
        refine xm 95 (.d (.slice (v15_2.map eRow))) ?_
        refine xs 96 rfl (sf_lenL (en := eRow) (l := v15_2) rfl TT.under_38 rfl ?_)
        refine xs 97 rfl (sf_lss (a := v16) (b := (v15_2.length : Int)) rfl rfl rfl ?_)
        refine XK.nz ?_
        refine QW.cond (t := (decide (v16 < (v15_2.length : Int)))) rfl zL (fun hb_33 => ?_) (fun hb_33 => ?_)
        · replace h := bGT h hb_33
          refine QW.skip zL (nrm ?_)
          refine QW.seq ?_
          refine QW.block ?_
          refine QW.seq ?_
          refine QW.region zL (PW.regQ (id := 21) mixedX (M := _) rfl (by kernel_rfl) ?_)
          refine RQ.st (some 100) rfl rfl (sf_move (v := .d (.slice (v15_2.map eRow))) rfl rfl ⟨⟨rfl, rfl⟩, ?_⟩)
          refine RQ.st (some 101) rfl rfl (sf_move (v := pI v16) rfl rfl ⟨⟨rfl, rfl⟩, ?_⟩)
          obtain ⟨c_34, h⟩ := gG h
          refine RQ.st (some 102) rfl rfl (sf_idxA (l := v15_2) (i := v16) rfl TT.slcA_38 lay_Row rfl rfl c_34 ⟨⟨rfl, rfl⟩, ?_⟩)
          refine RQ.st (some 103) rfl rfl (sf_fldC rfl TT.fldA_44_2 (by decide) rfl ⟨⟨rfl, rfl⟩, ?_⟩)
          refine RQ.st (some 104) rfl rfl (sf_ldC (d := .val (sV ((idx v15_2 v16).fBody))) rfl TT.tyA_9 rfl (ldc_Row_2 _) ⟨⟨rfl, rfl⟩, ?_⟩)
          obtain ⟨x_35, hx_36, h⟩ := bG h
          refine RQ.st (some 105) rfl rfl (sf_call rfl rfl TT.enters_10 rfl (sim_ref03_Sum ((idx v15_2 v16).fBody) _ hx_36) ⟨⟨rfl, rfl⟩, ?_⟩)
          refine RQ.st (some 106) rfl rfl (sf_move (v := .d (.slice (v15_2.map eRow))) rfl rfl ⟨⟨rfl, rfl⟩, ?_⟩)
          refine RQ.st (some 107) rfl rfl (sf_move (v := pI v16) rfl rfl ⟨⟨rfl, rfl⟩, ?_⟩)
          obtain ⟨c_37, h⟩ := gG h
          refine RQ.st (some 108) rfl rfl (sf_idxA (l := v15_2) (i := v16) rfl TT.slcA_38 lay_Row rfl rfl c_37 ⟨⟨rfl, rfl⟩, ?_⟩)
          refine RQ.st (some 109) rfl rfl (sf_fldC rfl TT.fldA_44_0 (by decide) rfl ⟨⟨rfl, rfl⟩, ?_⟩)
          refine RQ.st (some 110) rfl rfl (sf_ldC (d := .agg (((idx v15_2 v16).fSum).1.map byteD)) rfl TT.tyA_41 rfl (ldc_Row_0 _) ⟨⟨rfl, rfl⟩, ?_⟩)
          refine RQ.st (some 111) rfl rfl (sf_arrne (p := x_35) (q := (idx v15_2 v16).fSum) rfl TT.arrB_41_32 rfl rfl ⟨⟨rfl, rfl⟩, ?_⟩)
          refine RQ.nil (nrm ?_)
          refine QW.cond (t := (!(x_35.1 == ((idx v15_2 v16).fSum).1))) rfl zL (fun hb_38 => ?_) (fun hb_38 => ?_)
          · replace h := bGT h hb_38
            refine sR ?_
            refine xz 4 (pB false) ?_
            refine QW.ret zL (blR (thR (thR (blR (thR ?_)))))
            obtain rfl := sG h
            exact Ends.one (.inr rfl) rfl (ResIs.tmp rfl) rfl rfl
          · replace h := bGF h hb_38
            refine QW.skip zL (blN (nrm ?_))
            refine rG ?_
            refine xm 98 (pI v16) ?_
            obtain ⟨c_39, h⟩ := gG h
            refine xs 99 rfl (sf_add (a := v16) (b := (1 : Int)) rfl rfl rfl c_39 ?_)
            refine xz 16 (pI (v16 + (1 : Int))) ?_
            exact ⟨k_32, by omega, ⟨tab [(1, pS s1), (13, .vptr 0 0), (14, pI v14_2), (15, .d (.slice (v15_2.map eRow))), (16, pI (v16 + (1 : Int)))], tabH [.var [.d (.slice (v13_0_2.map (eL eRow)))]], 1, []⟩, View.mk 1 [0] _ _ _ rfl rfl (by decide) (iC (iC (iC (iC (iC trivial))))) (And.intro rfl trivial) rfl zL rfl, v14_2, v15_2, (v16 + (1 : Int)), v13_0_2, by omega, jG h, rfl⟩
        · replace h := bGF h hb_33
          refine QW.exit zL (thX (thX (exE (nrm ?_))))
          refine sR ?_
          refine xs 113 rfl (sf_fldV rfl TT.fldA_28_0 (by decide) rfl ?_)
          refine XK.as (some 114) rfl rfl (sf_ldV (v := .agg [.d (.slice (v13_0_2.map (eL eRow)))]) rfl TT.tyA_26 rfl rfl ⟨⟨by simp, by simp⟩, rfl⟩ ⟨.d (.agg (cIndex (⟨v13_0_2⟩ : Index))), (Imp.toD rfl), ?_⟩)
          obtain ⟨x_40, hx_41, h⟩ := bG h
          refine xs 115 rfl (sf_call rfl rfl TT.enters_6 rfl (sim_pindex_Index_Text (⟨v13_0_2⟩ : Index) _ hx_41) ?_)
          refine xm 112 (.d (.tuple [.val (sV (x_40.1)), .val (.int .i64 (x_40.2))])) ?_
          refine xs 116 rfl (sf_extract rfl rfl rfl ?_)
          refine xs 117 rfl (sf_extract rfl rfl rfl ?_)
          refine xa 17 (pS (x_40.1)) ?_
          refine xz 18 (pI (x_40.2)) ?_
          refine sR ?_
          obtain ⟨x_42, hx_43, h⟩ := bG h
          refine xs 118 rfl (sf_call rfl rfl TT.enters_4 rfl (sim_law49_awake  _ hx_43) ?_)
          refine xm 119 (pB x_42) ?_
          refine xg 120 (pI v14_2) rfl rfl (fun hg => sf_move (v := pI v14_2) rfl rfl g3) ?_
          refine xg 121 (pB (!decide (v14_2 = (0 : Int)))) rfl rfl (fun hg => sf_ne (a := v14_2) (b := (0 : Int)) rfl rfl rfl g3) ?_
          refine xg 122 (pB (!decide (v14_2 = (0 : Int)))) rfl rfl (fun hg => sf_move (v := pB (!decide (v14_2 = (0 : Int)))) rfl rfl g3) ?_
          refine xg 123 (.d (.slice (v15_2.map eRow))) rfl rfl (fun hg => sf_move (v := .d (.slice (v15_2.map eRow))) rfl rfl g3) ?_
          refine xg 124 (pI (v15_2.length : Int)) rfl rfl (fun hg => sf_lenL (en := eRow) (l := v15_2) rfl TT.under_38 rfl g3) ?_
          refine xg 125 (pB (decide ((v15_2.length : Int) = (0 : Int)))) rfl rfl (fun hg => sf_eq (a := (v15_2.length : Int)) (b := (0 : Int)) rfl rfl rfl g3) ?_
          refine XK.gp (some 126) rfl rfl rfl rfl rfl rfl (fun h => h) (fun hg hb => by first | (rw [hg, hb]; rfl) | (simp only [hg, hb]; rfl) | simp_all) (fun _ _ => rfl) ((!decide (v14_2 = (0 : Int))) && (decide ((v15_2.length : Int) = (0 : Int)))) (bif_and _ _) ?_
          refine xg 127 (pB ((!decide (v14_2 = (0 : Int))) && (decide ((v15_2.length : Int) = (0 : Int))))) rfl rfl (fun hg => sf_move (v := pB ((!decide (v14_2 = (0 : Int))) && (decide ((v15_2.length : Int) = (0 : Int))))) rfl rfl g3) ?_
          refine xg 128 (pI v14_2) rfl rfl (fun hg => sf_move (v := pI v14_2) rfl rfl g3) ?_
          refine xg 129 (pB (decide (v14_2 = (0 : Int)))) rfl rfl (fun hg => sf_eq (a := v14_2) (b := (0 : Int)) rfl rfl rfl g3) ?_
          refine xg 130 (pB (decide (v14_2 = (0 : Int)))) rfl rfl (fun hg => sf_move (v := pB (decide (v14_2 = (0 : Int)))) rfl rfl g3) ?_
          refine xg 131 (pS (x_40.1)) rfl rfl (fun hg => sf_move (v := pS (x_40.1)) rfl rfl g3) ?_
          refine xg 132 (pS s1) rfl rfl (fun hg => sf_move (v := pS s1) rfl rfl g3) ?_
          refine xg 133 (pB (x_40.1 == s1)) rfl rfl (fun hg => sf_seq (a := x_40.1) (b := s1) rfl rfl rfl g3) ?_
          refine XK.gp (some 134) rfl rfl rfl rfl rfl rfl (fun h => h) (fun hg hb => by first | (rw [hg, hb]; rfl) | (simp only [hg, hb]; rfl) | simp_all) (fun _ _ => rfl) ((decide (v14_2 = (0 : Int))) && (x_40.1 == s1)) (bif_and _ _) ?_
          refine XK.gp (some 135) rfl rfl rfl rfl rfl rfl (fun h => h) (fun _ _ => rfl) (fun hg hb => by first | (rw [hg, hb]; rfl) | (simp only [hg, hb]; rfl) | simp_all) (((!decide (v14_2 = (0 : Int))) && (decide ((v15_2.length : Int) = (0 : Int)))) || ((decide (v14_2 = (0 : Int))) && (x_40.1 == s1))) (bif_or _ _) ?_
          refine xs 136 rfl (sf_pickA rfl rfl rfl rfl (fun hb => by rw [hb]; rfl) (fun _ => rfl) ?_)
          refine xz 4 (pB (x_42 && (((!decide (v14_2 = (0 : Int))) && (decide ((v15_2.length : Int) = (0 : Int)))) || ((decide (v14_2 = (0 : Int))) && (x_40.1 == s1))))) ?_
          refine QW.ret zL ?_
          obtain rfl := sG h
          exact Ends.one (.inr rfl) rfl (ResIs.tmp rfl) rfl rfl
end Go.Proofs.Ythpgedneniekmaa.K
