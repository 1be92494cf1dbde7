/- Package node: what it reckons. -/
import Derived.Test.YtoeppofkmcdknaaCWRlp
import Derived.KernelRfl
namespace Go.Proofs.Ytoeppofkmcdknaa.K
open Go Go.RowKit
set_option linter.unusedSimpArgs false
set_option linter.unusedVariables false
set_option maxRecDepth 20000
set_option maxHeartbeats 4000000
namespace TT
theorem arrA_50 : arrA Try.prog 50 = some (16, 1, false) := by kernel_rfl
theorem bldA_50 : bldA Try.prog 50 = some ([Value.string ⟨#[]⟩, Value.string ⟨#[]⟩, Value.string ⟨#[]⟩, Value.string ⟨#[]⟩, Value.string ⟨#[]⟩, Value.string ⟨#[]⟩, Value.string ⟨#[]⟩, Value.string ⟨#[]⟩, Value.string ⟨#[]⟩, Value.string ⟨#[]⟩, Value.string ⟨#[]⟩, Value.string ⟨#[]⟩, Value.string ⟨#[]⟩, Value.string ⟨#[]⟩, Value.string ⟨#[]⟩, Value.string ⟨#[]⟩], .inr 1) := by kernel_rfl
theorem bldA_52 : bldA Try.prog 52 = some ([Value.int IntKind.i64 0, Value.slice none 0 0, Value.string ⟨#[]⟩, Value.string ⟨#[]⟩, Value.string ⟨#[]⟩, Value.string ⟨#[]⟩, Value.string ⟨#[]⟩, Value.string ⟨#[]⟩, Value.string ⟨#[]⟩, Value.string ⟨#[]⟩, Value.string ⟨#[]⟩, Value.string ⟨#[]⟩, Value.string ⟨#[]⟩, Value.string ⟨#[]⟩, Value.string ⟨#[]⟩, Value.string ⟨#[]⟩, Value.string ⟨#[]⟩, Value.string ⟨#[]⟩, Value.string ⟨#[]⟩], .inl [(0, 1), (1, 1), (2, 1), (3, 16)]) := by kernel_rfl
theorem enters_101 : entersB Try.prog 101 = true := by kernel_rfl
theorem enters_102 : entersB Try.prog 102 = true := by kernel_rfl
theorem enters_104 : entersB Try.prog 104 = true := by kernel_rfl
theorem enters_105 : entersB Try.prog 105 = true := by kernel_rfl
theorem enters_106 : entersB Try.prog 106 = true := by kernel_rfl
theorem enters_107 : entersB Try.prog 107 = true := by kernel_rfl
theorem enters_115 : entersB Try.prog 115 = true := by kernel_rfl
theorem enters_116 : entersB Try.prog 116 = true := by kernel_rfl
theorem enters_117 : entersB Try.prog 117 = true := by kernel_rfl
theorem enters_118 : entersB Try.prog 118 = true := by kernel_rfl
theorem enters_132 : entersB Try.prog 132 = true := by kernel_rfl
theorem enters_150 : entersB Try.prog 150 = true := by kernel_rfl
theorem enters_34 : entersB Try.prog 34 = true := by kernel_rfl
theorem enters_36 : entersB Try.prog 36 = true := by kernel_rfl
theorem enters_37 : entersB Try.prog 37 = true := by kernel_rfl
theorem enters_41 : entersB Try.prog 41 = true := by kernel_rfl
theorem enters_42 : entersB Try.prog 42 = true := by kernel_rfl
theorem enters_43 : entersB Try.prog 43 = true := by kernel_rfl
theorem enters_45 : entersB Try.prog 45 = true := by kernel_rfl
theorem enters_47 : entersB Try.prog 47 = true := by kernel_rfl
theorem enters_94 : entersB Try.prog 94 = true := by kernel_rfl
theorem enters_95 : entersB Try.prog 95 = true := by kernel_rfl
theorem enters_96 : entersB Try.prog 96 = true := by kernel_rfl
theorem enters_98 : entersB Try.prog 98 = true := by kernel_rfl
theorem fldA_52_0 : fldA Try.prog 52 0 = some (0, 1, false) := by kernel_rfl
theorem fldA_52_1 : fldA Try.prog 52 1 = some (1, 1, false) := by kernel_rfl
theorem fldA_52_2 : fldA Try.prog 52 2 = some (2, 1, false) := by kernel_rfl
theorem fldA_52_3 : fldA Try.prog 52 3 = some (3, 16, true) := by kernel_rfl
theorem res_101 : Try.f101.results.toList = [.tmp 2] := rfl
theorem res_102 : Try.f102.results.toList = [.tmp 2] := rfl
theorem res_104 : Try.f104.results.toList = [.tmp 4] := rfl
theorem res_106 : Try.f106.results.toList = [.cell 4 52] := rfl
theorem res_107 : Try.f107.results.toList = [.tmp 2] := rfl
theorem res_116 : Try.f116.results.toList = [.tmp 4] := rfl
theorem res_117 : Try.f117.results.toList = [.tmp 2] := rfl
theorem res_118 : Try.f118.results.toList = [.tmp 2] := rfl
theorem res_132 : Try.f132.results.toList = [.tmp 4] := rfl
theorem res_34 : Try.f34.results.toList = [.tmp 2, .tmp 3] := rfl
theorem res_36 : Try.f36.results.toList = [.tmp 2] := rfl
theorem res_37 : Try.f37.results.toList = [.cell 2 52, .tmp 3] := rfl
theorem res_41 : Try.f41.results.toList = [.cell 4 52] := rfl
theorem res_42 : Try.f42.results.toList = [.cell 4 52] := rfl
theorem res_43 : Try.f43.results.toList = [.cell 2 52] := rfl
theorem res_45 : Try.f45.results.toList = [.tmp 2] := rfl
theorem res_47 : Try.f47.results.toList = [.tmp 2] := rfl
theorem res_98 : Try.f98.results.toList = [.cell 2 125] := rfl
theorem rowA_62 : rowA Try.prog 62 = some (1, 16) := by kernel_rfl
theorem rowZ_62 : rowZ Try.prog 62 = true := by kernel_rfl
theorem slcA_50 : slcA Try.prog 50 = none := by kernel_rfl
theorem slcA_62 : slcA Try.prog 62 = some (1, 16, false) := by kernel_rfl
theorem tyA_50 : tyA Try.prog 50 = some (true, 16) := by kernel_rfl
theorem tyA_52 : tyA Try.prog 52 = some (true, 19) := by kernel_rfl
theorem under_50 : Program.underlying Try.prog 50 = some (.array 16 9) := by kernel_rfl
theorem under_62 : Program.underlying Try.prog 62 = some (.slice 9) := by kernel_rfl
theorem zeroA_50 : zeroA Try.prog 50 = some [Value.string ⟨#[]⟩, Value.string ⟨#[]⟩, Value.string ⟨#[]⟩, Value.string ⟨#[]⟩, Value.string ⟨#[]⟩, Value.string ⟨#[]⟩, Value.string ⟨#[]⟩, Value.string ⟨#[]⟩, Value.string ⟨#[]⟩, Value.string ⟨#[]⟩, Value.string ⟨#[]⟩, Value.string ⟨#[]⟩, Value.string ⟨#[]⟩, Value.string ⟨#[]⟩, Value.string ⟨#[]⟩, Value.string ⟨#[]⟩] := by kernel_rfl
theorem zeroA_52 : zeroA Try.prog 52 = some [Value.int IntKind.i64 0, Value.slice none 0 0, Value.string ⟨#[]⟩, Value.string ⟨#[]⟩, Value.string ⟨#[]⟩, Value.string ⟨#[]⟩, Value.string ⟨#[]⟩, Value.string ⟨#[]⟩, Value.string ⟨#[]⟩, Value.string ⟨#[]⟩, Value.string ⟨#[]⟩, Value.string ⟨#[]⟩, Value.string ⟨#[]⟩, Value.string ⟨#[]⟩, Value.string ⟨#[]⟩, Value.string ⟨#[]⟩, Value.string ⟨#[]⟩, Value.string ⟨#[]⟩, Value.string ⟨#[]⟩] := by kernel_rfl
end TT
noncomputable def g_node_Leaf (path0 : (List UInt8)) (value1 : (List UInt8)) : Option Node :=
    ((g_slices_Clone_byte_byte path0).bind fun (x_1 : (List UInt8)) =>
    some (⟨1, x_1, value1, (Arr.rep 16 ([] : (List UInt8)))⟩ : Node))
theorem sim_node_Leaf (path0 : (List UInt8)) (value1 : (List UInt8)) (r : Node) (h : g_node_Leaf path0 value1 = some r) : Fun Try.prog 41 [.slice (path0.map byteD), .val (sV value1)] (.agg (cNode r)) := by
  refine Fun.of_bodyQ Try.func41 rfl (by simp [Try.ntmps41]) ?_
  rw [Try.ntmps41, TT.res_41]
  refine QW.view (s' := ⟨tab [(0, .d (.slice (path0.map byteD))), (1, pS value1)], tabH [], 0, []⟩) (View.init (by rfl)) zL ?_
  unfold g_node_Leaf at h
  refine sR ?_
  refine xs 4 rfl (sf_alloc (l := (([pI (0), .full (([] : (List UInt8)).map byteD), pS ([] : List UInt8)]) ++ (((Arr.rep 16 ([] : (List UInt8))).1.map eS).map PV.d))) rfl TT.zeroA_52 rfl rfl ?_)
  refine XK.nz ?_
  refine sR ?_
  refine xm 5 (.d (.slice (path0.map byteD))) ?_
  obtain ⟨x_1, hx_2, h⟩ := bO h
  refine xs 6 rfl (sf_call rfl rfl TT.enters_115 rfl (sim_slices_Clone_byte_byte path0 _ hx_2) ?_)
  refine xm 7 (pS value1) ?_
  refine xs 8 rfl (sf_bld (v := .agg (([pI (1), .d (.slice (x_1.map byteD)), pS value1]) ++ (((Arr.rep 16 ([] : (List UInt8))).1.map eS).map PV.d))) rfl TT.bldA_52 (build_of rfl (fill_step (p := pI (1)) (cells := (([pI (0), .full (([] : (List UInt8)).map byteD), pS ([] : List UInt8)]) ++ (((Arr.rep 16 ([] : (List UInt8))).1.map eS).map PV.d))) (cells' := (([pI (1), .full (([] : (List UInt8)).map byteD), pS ([] : List UInt8)]) ++ (((Arr.rep 16 ([] : (List UInt8))).1.map eS).map PV.d))) rfl rfl rfl (le_of_len (len_app (A := [pI (0), .full (([] : (List UInt8)).map byteD), pS ([] : List UInt8)]) (b := 16) rfl (len_map2 _) rfl) bL) (spl_left 0 (by first | exact Nat.le_of_ble_eq_true rfl | simp) rfl) (fill_step (p := .d (.slice (x_1.map byteD))) (cells := (([pI (1), .full (([] : (List UInt8)).map byteD), pS ([] : List UInt8)]) ++ (((Arr.rep 16 ([] : (List UInt8))).1.map eS).map PV.d))) (cells' := (([pI (1), .d (.slice (x_1.map byteD)), pS ([] : List UInt8)]) ++ (((Arr.rep 16 ([] : (List UInt8))).1.map eS).map PV.d))) rfl rfl rfl (le_of_len (len_app (A := [pI (1), .full (([] : (List UInt8)).map byteD), pS ([] : List UInt8)]) (b := 16) rfl (len_map2 _) rfl) bL) (spl_left 1 (by first | exact Nat.le_of_ble_eq_true rfl | simp) rfl) (fill_step (p := pS value1) (cells := (([pI (1), .d (.slice (x_1.map byteD)), pS ([] : List UInt8)]) ++ (((Arr.rep 16 ([] : (List UInt8))).1.map eS).map PV.d))) (cells' := (([pI (1), .d (.slice (x_1.map byteD)), pS value1]) ++ (((Arr.rep 16 ([] : (List UInt8))).1.map eS).map PV.d))) rfl rfl rfl (le_of_len (len_app (A := [pI (1), .d (.slice (x_1.map byteD)), pS ([] : List UInt8)]) (b := 16) rfl (len_map2 _) rfl) bL) (spl_left 2 (by first | exact Nat.le_of_ble_eq_true rfl | simp) rfl) fill_nil)))) ?_)
  refine XK.st none rfl rfl (sf_stV (c := (([pI (1), .d (.slice (x_1.map byteD)), pS value1]) ++ (((Arr.rep 16 ([] : (List UInt8))).1.map eS).map PV.d))) (l' := (([pI (1), .d (.slice (x_1.map byteD)), pS value1]) ++ (((Arr.rep 16 ([] : (List UInt8))).1.map eS).map PV.d))) rfl TT.tyA_52 rfl rfl rfl rfl rfl (len_app (A := [pI (1), .d (.slice (x_1.map byteD)), pS value1]) (b := 16) rfl (len_map2 _) rfl) (le_of_len (len_app (A := [pI (0), .full (([] : (List UInt8)).map byteD), pS ([] : List UInt8)]) (b := 16) rfl (len_map2 _) rfl) bL) (spl_same ((len_app (A := [pI (0), .full (([] : (List UInt8)).map byteD), pS ([] : List UInt8)]) (b := 16) rfl (len_map2 _) rfl).trans (len_app (A := [pI (1), .d (.slice (x_1.map byteD)), pS value1]) (b := 16) rfl (len_map2 _) rfl).symm)) ?_)
  refine XK.nz ?_
  refine QW.ret zL ?_
  obtain rfl := sO h
  exact Ends.one (.inr rfl) rfl (ResIs.cell rfl rfl TT.tyA_52 (ldv_whole (len_app (A := [pI (1), .d (.slice (x_1.map byteD)), pS value1]) (b := 16) rfl (len_map2 _) rfl) (Nat.succ_pos _))) (by simp only [PV.toD, PV.toDs, toDs_appS, toDs_map, Option.bind_some, Option.map_some, cNode] <;> rfl) rfl
noncomputable def g_node_reference (x0 : Item) : Option (List UInt8) :=
    (bif (!(x0).fList) then
    some (x0.fS)
    else
    ((g_rlp_Put x0).bind fun (x_2 : ((List UInt8) × Int)) =>
    some (x_2.1)))
theorem sim_node_reference (x0 : Item) (r : (List UInt8)) (h : g_node_reference x0 = some r) : Fun Try.prog 107 [.agg (cItem x0)] (.val (sV r)) := by
  refine Fun.of_bodyQ Try.func107 rfl (by simp [Try.ntmps107]) ?_
  rw [Try.ntmps107, TT.res_107]
  refine QW.view (s' := ⟨tab [(0, .d (.agg (cItem x0)))], tabH [], 0, []⟩) (View.init (by rfl)) zL ?_
  unfold g_node_reference at h
  refine sR ?_
  refine XK.fz (some 1) rfl rfl (sf_boxF (ds := cItem x0) rfl rfl rfl rfl rfl ?_)
  refine xz 2 (pS ([] : List UInt8)) ?_
  refine QW.seq ?_
  refine sR ?_
  refine xs 5 rfl (sf_fldC rfl TT.fldA_125_0 (by decide) rfl ?_)
  refine xs 6 rfl (sf_ldC (d := .val (.bool (x0.fList))) rfl TT.tyA_4 rfl (LdC.one) ?_)
  refine xs 7 rfl (sf_not rfl rfl ?_)
  refine XK.nz ?_
  refine QW.cond (t := (!(x0).fList)) rfl zL (fun hb_1 => ?_) (fun hb_1 => ?_)
  · replace h := bT h hb_1
    refine sR ?_
    refine xs 8 rfl (sf_fldC rfl TT.fldA_125_1 (by decide) rfl ?_)
    refine xs 9 rfl (sf_ldC (d := .val (sV (x0.fS))) rfl TT.tyA_9 rfl (LdC.one) ?_)
    refine xz 2 (pS (x0.fS)) ?_
    refine QW.ret zL (thR ?_)
    obtain rfl := sO h
    exact Ends.one (.inr rfl) rfl (ResIs.tmp rfl) rfl rfl
  · replace h := bF h hb_1
    refine QW.skip zL (nrm ?_)
    refine sR ?_
    refine xs 11 rfl (sf_ldC (d := .agg (cItem x0)) rfl TT.tyA_125 rfl (⟨by simp [cItem], rfl⟩) ?_)
    obtain ⟨x_2, hx_3, h⟩ := bO h
    refine xs 12 rfl (sf_call rfl rfl TT.enters_95 rfl (sim_rlp_Put x0 _ hx_3) ?_)
    refine xm 10 (.d (.tuple [.val (sV (x_2.1)), .val (.int .i64 (x_2.2))])) ?_
    refine xs 13 rfl (sf_extract rfl rfl rfl ?_)
    refine xs 14 rfl (sf_extract rfl rfl rfl ?_)
    refine xa 3 (pS (x_2.1)) ?_
    refine xz 4 (pI (x_2.2)) ?_
    refine sR ?_
    refine xm 15 (pS (x_2.1)) ?_
    refine xz 2 (pS (x_2.1)) ?_
    refine QW.ret zL ?_
    obtain rfl := sO h
    exact Ends.one (.inr rfl) rfl (ResIs.tmp rfl) rfl rfl
noncomputable def g_node_Ext (path0 : (List UInt8)) (kid1 : (List UInt8)) : Option Node :=
    ((g_slices_Clone_byte_byte path0).bind fun (x_1 : (List UInt8)) =>
    some (⟨2, x_1, ([] : List UInt8), (⟨[kid1, ([] : (List UInt8)), ([] : (List UInt8)), ([] : (List UInt8)), ([] : (List UInt8)), ([] : (List UInt8)), ([] : (List UInt8)), ([] : (List UInt8)), ([] : (List UInt8)), ([] : (List UInt8)), ([] : (List UInt8)), ([] : (List UInt8)), ([] : (List UInt8)), ([] : (List UInt8)), ([] : (List UInt8)), ([] : (List UInt8))], rfl⟩ : (Arr 16 (List UInt8)))⟩ : Node))
theorem sim_node_Ext (path0 : (List UInt8)) (kid1 : (List UInt8)) (r : Node) (h : g_node_Ext path0 kid1 = some r) : Fun Try.prog 42 [.slice (path0.map byteD), .val (sV kid1)] (.agg (cNode r)) := by
  refine Fun.of_bodyQ Try.func42 rfl (by simp [Try.ntmps42]) ?_
  rw [Try.ntmps42, TT.res_42]
  refine QW.view (s' := ⟨tab [(0, .d (.slice (path0.map byteD))), (1, pS kid1)], tabH [], 0, []⟩) (View.init (by rfl)) zL ?_
  unfold g_node_Ext at h
  refine sR ?_
  refine xs 4 rfl (sf_alloc (l := (([pI (0), .full (([] : (List UInt8)).map byteD), pS ([] : List UInt8)]) ++ (((Arr.rep 16 ([] : (List UInt8))).1.map eS).map PV.d))) rfl TT.zeroA_52 rfl rfl ?_)
  refine XK.nz ?_
  refine sR ?_
  refine xm 5 (.d (.slice (path0.map byteD))) ?_
  obtain ⟨x_1, hx_2, h⟩ := bO h
  refine xs 6 rfl (sf_call rfl rfl TT.enters_115 rfl (sim_slices_Clone_byte_byte path0 _ hx_2) ?_)
  refine xm 7 (pS kid1) ?_
  refine XK.as (some 8) rfl rfl (sf_build (v := .agg [pS kid1, pS ([] : List UInt8), pS ([] : List UInt8), pS ([] : List UInt8), pS ([] : List UInt8), pS ([] : List UInt8), pS ([] : List UInt8), pS ([] : List UInt8), pS ([] : List UInt8), pS ([] : List UInt8), pS ([] : List UInt8), pS ([] : List UInt8), pS ([] : List UInt8), pS ([] : List UInt8), pS ([] : List UInt8), pS ([] : List UInt8)]) rfl (by rw [TT.bldA_50]; simp [buildP, fillP, placeOf, partsQ, evP, PV.solid, PV.cellsP, Value.oneCell', spl, cellV, ofVal, List.all, putS_at, tab, unS, unT, asCond, unC]) (by rw [TT.bldA_50]; rfl) ⟨.d (.agg ((⟨[kid1, ([] : (List UInt8)), ([] : (List UInt8)), ([] : (List UInt8)), ([] : (List UInt8)), ([] : (List UInt8)), ([] : (List UInt8)), ([] : (List UInt8)), ([] : (List UInt8)), ([] : (List UInt8)), ([] : (List UInt8)), ([] : (List UInt8)), ([] : (List UInt8)), ([] : (List UInt8)), ([] : (List UInt8)), ([] : (List UInt8))], rfl⟩ : (Arr 16 (List UInt8))).1.map eS)), (Imp.toD rfl), ?_⟩)
  refine xs 9 rfl (sf_bld (v := .agg (([pI (2), .d (.slice (x_1.map byteD)), pS ([] : List UInt8)]) ++ (((⟨[kid1, ([] : (List UInt8)), ([] : (List UInt8)), ([] : (List UInt8)), ([] : (List UInt8)), ([] : (List UInt8)), ([] : (List UInt8)), ([] : (List UInt8)), ([] : (List UInt8)), ([] : (List UInt8)), ([] : (List UInt8)), ([] : (List UInt8)), ([] : (List UInt8)), ([] : (List UInt8)), ([] : (List UInt8)), ([] : (List UInt8))], rfl⟩ : (Arr 16 (List UInt8))).1.map eS).map PV.d))) rfl TT.bldA_52 (build_of rfl (fill_step (p := pI (2)) (cells := (([pI (0), .full (([] : (List UInt8)).map byteD), pS ([] : List UInt8)]) ++ (((Arr.rep 16 ([] : (List UInt8))).1.map eS).map PV.d))) (cells' := (([pI (2), .full (([] : (List UInt8)).map byteD), pS ([] : List UInt8)]) ++ (((Arr.rep 16 ([] : (List UInt8))).1.map eS).map PV.d))) rfl rfl rfl (le_of_len (len_app (A := [pI (0), .full (([] : (List UInt8)).map byteD), pS ([] : List UInt8)]) (b := 16) rfl (len_map2 _) rfl) bL) (spl_left 0 (by first | exact Nat.le_of_ble_eq_true rfl | simp) rfl) (fill_step (p := .d (.slice (x_1.map byteD))) (cells := (([pI (2), .full (([] : (List UInt8)).map byteD), pS ([] : List UInt8)]) ++ (((Arr.rep 16 ([] : (List UInt8))).1.map eS).map PV.d))) (cells' := (([pI (2), .d (.slice (x_1.map byteD)), pS ([] : List UInt8)]) ++ (((Arr.rep 16 ([] : (List UInt8))).1.map eS).map PV.d))) rfl rfl rfl (le_of_len (len_app (A := [pI (2), .full (([] : (List UInt8)).map byteD), pS ([] : List UInt8)]) (b := 16) rfl (len_map2 _) rfl) bL) (spl_left 1 (by first | exact Nat.le_of_ble_eq_true rfl | simp) rfl) (fill_step (p := .d (.agg ((⟨[kid1, ([] : (List UInt8)), ([] : (List UInt8)), ([] : (List UInt8)), ([] : (List UInt8)), ([] : (List UInt8)), ([] : (List UInt8)), ([] : (List UInt8)), ([] : (List UInt8)), ([] : (List UInt8)), ([] : (List UInt8)), ([] : (List UInt8)), ([] : (List UInt8)), ([] : (List UInt8)), ([] : (List UInt8)), ([] : (List UInt8))], rfl⟩ : (Arr 16 (List UInt8))).1.map eS))) (cells := (([pI (2), .d (.slice (x_1.map byteD)), pS ([] : List UInt8)]) ++ (((Arr.rep 16 ([] : (List UInt8))).1.map eS).map PV.d))) (cells' := (([pI (2), .d (.slice (x_1.map byteD)), pS ([] : List UInt8)]) ++ (((⟨[kid1, ([] : (List UInt8)), ([] : (List UInt8)), ([] : (List UInt8)), ([] : (List UInt8)), ([] : (List UInt8)), ([] : (List UInt8)), ([] : (List UInt8)), ([] : (List UInt8)), ([] : (List UInt8)), ([] : (List UInt8)), ([] : (List UInt8)), ([] : (List UInt8)), ([] : (List UInt8)), ([] : (List UInt8)), ([] : (List UInt8))], rfl⟩ : (Arr 16 (List UInt8))).1.map eS).map PV.d))) rfl rfl (show (((⟨[kid1, ([] : (List UInt8)), ([] : (List UInt8)), ([] : (List UInt8)), ([] : (List UInt8)), ([] : (List UInt8)), ([] : (List UInt8)), ([] : (List UInt8)), ([] : (List UInt8)), ([] : (List UInt8)), ([] : (List UInt8)), ([] : (List UInt8)), ([] : (List UInt8)), ([] : (List UInt8)), ([] : (List UInt8)), ([] : (List UInt8))], rfl⟩ : (Arr 16 (List UInt8))).1.map eS).map PV.d).length = _ from len_map2 _) (le_of_len (len_app (A := [pI (2), .d (.slice (x_1.map byteD)), pS ([] : List UInt8)]) (b := 16) rfl (len_map2 _) rfl) bL) (spl_in 3 0 rfl (spl_same ((len_map2 _).trans (len_map2 _).symm))) fill_nil)))) ?_)
  refine XK.st none rfl rfl (sf_stV (c := (([pI (2), .d (.slice (x_1.map byteD)), pS ([] : List UInt8)]) ++ (((⟨[kid1, ([] : (List UInt8)), ([] : (List UInt8)), ([] : (List UInt8)), ([] : (List UInt8)), ([] : (List UInt8)), ([] : (List UInt8)), ([] : (List UInt8)), ([] : (List UInt8)), ([] : (List UInt8)), ([] : (List UInt8)), ([] : (List UInt8)), ([] : (List UInt8)), ([] : (List UInt8)), ([] : (List UInt8)), ([] : (List UInt8))], rfl⟩ : (Arr 16 (List UInt8))).1.map eS).map PV.d))) (l' := (([pI (2), .d (.slice (x_1.map byteD)), pS ([] : List UInt8)]) ++ (((⟨[kid1, ([] : (List UInt8)), ([] : (List UInt8)), ([] : (List UInt8)), ([] : (List UInt8)), ([] : (List UInt8)), ([] : (List UInt8)), ([] : (List UInt8)), ([] : (List UInt8)), ([] : (List UInt8)), ([] : (List UInt8)), ([] : (List UInt8)), ([] : (List UInt8)), ([] : (List UInt8)), ([] : (List UInt8)), ([] : (List UInt8))], rfl⟩ : (Arr 16 (List UInt8))).1.map eS).map PV.d))) rfl TT.tyA_52 rfl rfl rfl rfl rfl (len_app (A := [pI (2), .d (.slice (x_1.map byteD)), pS ([] : List UInt8)]) (b := 16) rfl (len_map2 _) rfl) (le_of_len (len_app (A := [pI (0), .full (([] : (List UInt8)).map byteD), pS ([] : List UInt8)]) (b := 16) rfl (len_map2 _) rfl) bL) (spl_same ((len_app (A := [pI (0), .full (([] : (List UInt8)).map byteD), pS ([] : List UInt8)]) (b := 16) rfl (len_map2 _) rfl).trans (len_app (A := [pI (2), .d (.slice (x_1.map byteD)), pS ([] : List UInt8)]) (b := 16) rfl (len_map2 _) rfl).symm)) ?_)
  refine XK.nz ?_
  refine QW.ret zL ?_
  obtain rfl := sO h
  exact Ends.one (.inr rfl) rfl (ResIs.cell rfl rfl TT.tyA_52 (ldv_whole (len_app (A := [pI (2), .d (.slice (x_1.map byteD)), pS ([] : List UInt8)]) (b := 16) rfl (len_map2 _) rfl) (Nat.succ_pos _))) (by simp only [PV.toD, PV.toDs, toDs_appS, toDs_map, Option.bind_some, Option.map_some, cNode] <;> rfl) rfl
noncomputable def g_node_pair (a0 : Item) (b1 : Item) : Option Node :=
    ((g_nib_Unpack (a0.fS)).bind fun (x_1 : ((List UInt8) × Bool × Int)) =>
    (bif x_1.2.1 then
    ((g_node_Leaf (x_1.1) (b1.fS)).bind fun (x_4 : Node) =>
    some x_4)
    else
    ((g_node_reference b1).bind fun (x_6 : (List UInt8)) =>
    ((g_node_Ext (x_1.1) x_6).bind fun (x_8 : Node) =>
    some x_8))))
theorem sim_node_pair (a0 : Item) (b1 : Item) (r : Node) (h : g_node_pair a0 b1 = some r) : Fun Try.prog 106 [.agg (cItem a0), .agg (cItem b1)] (.agg (cNode r)) := by
  refine Fun.of_bodyQ Try.func106 rfl (by simp [Try.ntmps106]) ?_
  rw [Try.ntmps106, TT.res_106]
  refine QW.view (s' := ⟨tab [(0, .d (.agg (cItem a0))), (1, .d (.agg (cItem b1)))], tabH [], 0, []⟩) (View.init (by rfl)) zL ?_
  unfold g_node_pair at h
  refine sR ?_
  refine XK.fz (some 2) rfl rfl (sf_boxF (ds := cItem a0) rfl rfl rfl rfl rfl ?_)
  refine XK.fz (some 3) rfl rfl (sf_boxF (ds := cItem b1) rfl rfl rfl rfl rfl ?_)
  refine xs 4 rfl (sf_alloc (l := (([pI (0), .full (([] : (List UInt8)).map byteD), pS ([] : List UInt8)]) ++ (((Arr.rep 16 ([] : (List UInt8))).1.map eS).map PV.d))) rfl TT.zeroA_52 rfl rfl ?_)
  refine XK.nz ?_
  refine sR ?_
  refine xs 9 rfl (sf_fldC rfl TT.fldA_125_1 (by decide) rfl ?_)
  refine xs 10 rfl (sf_ldC (d := .val (sV (a0.fS))) rfl TT.tyA_9 rfl (LdC.one) ?_)
  obtain ⟨x_1, hx_2, h⟩ := bO h
  refine xs 11 rfl (sf_call rfl rfl TT.enters_150 rfl (sim_nib_Unpack (a0.fS) _ hx_2) ?_)
  refine xm 8 (.d (.tuple [.slice ((x_1.1).map byteD), .val (.bool (x_1.2.1)), .val (.int .i64 (x_1.2.2))])) ?_
  refine xs 12 rfl (sf_extract rfl rfl rfl ?_)
  refine xs 13 rfl (sf_extract rfl rfl rfl ?_)
  refine xs 14 rfl (sf_extract rfl rfl rfl ?_)
  refine xa 5 (.d (.slice ((x_1.1).map byteD))) ?_
  refine xa 6 (pB (x_1.2.1)) ?_
  refine xz 7 (pI (x_1.2.2)) ?_
  refine QW.seq ?_
  refine sR ?_
  refine xm 15 (pB (x_1.2.1)) ?_
  refine XK.nz ?_
  refine QW.cond (t := x_1.2.1) rfl zL (fun hb_3 => ?_) (fun hb_3 => ?_)
  · replace h := bT h hb_3
    refine sR ?_
    refine xm 16 (.d (.slice ((x_1.1).map byteD))) ?_
    refine xs 17 rfl (sf_fldC rfl TT.fldA_125_1 (by decide) rfl ?_)
    refine xs 18 rfl (sf_ldC (d := .val (sV (b1.fS))) rfl TT.tyA_9 rfl (LdC.one) ?_)
    obtain ⟨x_4, hx_5, h⟩ := bO h
    refine xs 19 rfl (sf_call rfl rfl TT.enters_41 rfl (sim_node_Leaf (x_1.1) (b1.fS) _ hx_5) ?_)
    refine XK.st none rfl rfl (sf_stV (c := (([pI (x_4.fKind), .d (.slice ((x_4.fPath).map byteD)), pS (x_4.fValue)]) ++ (((x_4.fKids).1.map eS).map PV.d))) (l' := (([pI (x_4.fKind), .d (.slice ((x_4.fPath).map byteD)), pS (x_4.fValue)]) ++ (((x_4.fKids).1.map eS).map PV.d))) rfl TT.tyA_52 rfl rfl rfl rfl (show (cNode x_4).map PV.d = _ by simp only [cNode, List.map_append]; rfl) (len_app (A := [pI (x_4.fKind), .d (.slice ((x_4.fPath).map byteD)), pS (x_4.fValue)]) (b := 16) rfl (len_map2 _) rfl) (le_of_len (len_app (A := [pI (0), .full (([] : (List UInt8)).map byteD), pS ([] : List UInt8)]) (b := 16) rfl (len_map2 _) rfl) bL) (spl_same ((len_app (A := [pI (0), .full (([] : (List UInt8)).map byteD), pS ([] : List UInt8)]) (b := 16) rfl (len_map2 _) rfl).trans (len_app (A := [pI (x_4.fKind), .d (.slice ((x_4.fPath).map byteD)), pS (x_4.fValue)]) (b := 16) rfl (len_map2 _) rfl).symm)) ?_)
    refine XK.nz ?_
    refine QW.ret zL (thR ?_)
    obtain rfl := sO h
    exact Ends.one (.inr rfl) rfl (ResIs.cell rfl rfl TT.tyA_52 (ldv_whole (len_app (A := [pI (x_4.fKind), .d (.slice ((x_4.fPath).map byteD)), pS (x_4.fValue)]) (b := 16) rfl (len_map2 _) rfl) (Nat.succ_pos _))) (by simp only [PV.toD, PV.toDs, toDs_appS, toDs_map, Option.bind_some, Option.map_some, cNode] <;> rfl) rfl
  · replace h := bF h hb_3
    refine QW.skip zL (nrm ?_)
    refine sR ?_
    refine xm 20 (.d (.slice ((x_1.1).map byteD))) ?_
    refine xs 21 rfl (sf_ldC (d := .agg (cItem b1)) rfl TT.tyA_125 rfl (⟨by simp [cItem], rfl⟩) ?_)
    obtain ⟨x_6, hx_7, h⟩ := bO h
    refine xs 22 rfl (sf_call rfl rfl TT.enters_107 rfl (sim_node_reference b1 _ hx_7) ?_)
    obtain ⟨x_8, hx_9, h⟩ := bO h
    refine xs 23 rfl (sf_call rfl rfl TT.enters_42 rfl (sim_node_Ext (x_1.1) x_6 _ hx_9) ?_)
    refine XK.st none rfl rfl (sf_stV (c := (([pI (x_8.fKind), .d (.slice ((x_8.fPath).map byteD)), pS (x_8.fValue)]) ++ (((x_8.fKids).1.map eS).map PV.d))) (l' := (([pI (x_8.fKind), .d (.slice ((x_8.fPath).map byteD)), pS (x_8.fValue)]) ++ (((x_8.fKids).1.map eS).map PV.d))) rfl TT.tyA_52 rfl rfl rfl rfl (show (cNode x_8).map PV.d = _ by simp only [cNode, List.map_append]; rfl) (len_app (A := [pI (x_8.fKind), .d (.slice ((x_8.fPath).map byteD)), pS (x_8.fValue)]) (b := 16) rfl (len_map2 _) rfl) (le_of_len (len_app (A := [pI (0), .full (([] : (List UInt8)).map byteD), pS ([] : List UInt8)]) (b := 16) rfl (len_map2 _) rfl) bL) (spl_same ((len_app (A := [pI (0), .full (([] : (List UInt8)).map byteD), pS ([] : List UInt8)]) (b := 16) rfl (len_map2 _) rfl).trans (len_app (A := [pI (x_8.fKind), .d (.slice ((x_8.fPath).map byteD)), pS (x_8.fValue)]) (b := 16) rfl (len_map2 _) rfl).symm)) ?_)
    refine XK.nz ?_
    refine QW.ret zL ?_
    obtain rfl := sO h
    exact Ends.one (.inr rfl) rfl (ResIs.cell rfl rfl TT.tyA_52 (ldv_whole (len_app (A := [pI (x_8.fKind), .d (.slice ((x_8.fPath).map byteD)), pS (x_8.fValue)]) (b := 16) rfl (len_map2 _) rfl) (Nat.succ_pos _))) (by simp only [PV.toD, PV.toDs, toDs_appS, toDs_map, Option.bind_some, Option.map_some, cNode] <;> rfl) rfl
noncomputable def g_node_Branch (kids0 : (Arr 16 (List UInt8))) : Option Node :=
    some (⟨3, ([] : (List UInt8)), ([] : List UInt8), kids0⟩ : Node)
theorem sim_node_Branch (kids0 : (Arr 16 (List UInt8))) (r : Node) (h : g_node_Branch kids0 = some r) : Fun Try.prog 43 [.agg (kids0.1.map eS)] (.agg (cNode r)) := by
  refine Fun.of_bodyQ Try.func43 rfl (by simp [Try.ntmps43]) ?_
  rw [Try.ntmps43, TT.res_43]
  refine QW.view (s' := ⟨tab [(0, .d (.agg (kids0.1.map eS)))], tabH [], 0, []⟩) (View.init (by rfl)) zL ?_
  unfold g_node_Branch at h
  refine sR ?_
  refine XK.fz (some 1) rfl rfl (sf_boxF (ds := kids0.1.map eS) rfl rfl rfl rfl toDs_map ?_)
  refine xs 2 rfl (sf_alloc (l := (([pI (0), .full (([] : (List UInt8)).map byteD), pS ([] : List UInt8)]) ++ (((Arr.rep 16 ([] : (List UInt8))).1.map eS).map PV.d))) rfl TT.zeroA_52 rfl rfl ?_)
  refine XK.nz ?_
  refine sR ?_
  refine xs 3 rfl (sf_ldC (d := .agg (kids0.1.map eS)) rfl TT.tyA_50 rfl (ldc_all (by rw [List.length_map, kids0.2])) ?_)
  refine xs 4 rfl (sf_bld (v := .agg (([pI (3), .full (([] : (List UInt8)).map byteD), pS ([] : List UInt8)]) ++ ((kids0.1.map eS).map PV.d))) rfl TT.bldA_52 (build_of rfl (fill_step (p := pI (3)) (cells := (([pI (0), .full (([] : (List UInt8)).map byteD), pS ([] : List UInt8)]) ++ (((Arr.rep 16 ([] : (List UInt8))).1.map eS).map PV.d))) (cells' := (([pI (3), .full (([] : (List UInt8)).map byteD), pS ([] : List UInt8)]) ++ (((Arr.rep 16 ([] : (List UInt8))).1.map eS).map PV.d))) rfl rfl rfl (le_of_len (len_app (A := [pI (0), .full (([] : (List UInt8)).map byteD), pS ([] : List UInt8)]) (b := 16) rfl (len_map2 _) rfl) bL) (spl_left 0 (by first | exact Nat.le_of_ble_eq_true rfl | simp) rfl) (fill_step (p := .d (.agg (kids0.1.map eS))) (cells := (([pI (3), .full (([] : (List UInt8)).map byteD), pS ([] : List UInt8)]) ++ (((Arr.rep 16 ([] : (List UInt8))).1.map eS).map PV.d))) (cells' := (([pI (3), .full (([] : (List UInt8)).map byteD), pS ([] : List UInt8)]) ++ ((kids0.1.map eS).map PV.d))) rfl rfl (show ((kids0.1.map eS).map PV.d).length = _ from len_map2 _) (le_of_len (len_app (A := [pI (3), .full (([] : (List UInt8)).map byteD), pS ([] : List UInt8)]) (b := 16) rfl (len_map2 _) rfl) bL) (spl_in 3 0 rfl (spl_same ((len_map2 _).trans (len_map2 _).symm))) fill_nil))) ?_)
  refine XK.st none rfl rfl (sf_stV (c := (([pI (3), .full (([] : (List UInt8)).map byteD), pS ([] : List UInt8)]) ++ ((kids0.1.map eS).map PV.d))) (l' := (([pI (3), .full (([] : (List UInt8)).map byteD), pS ([] : List UInt8)]) ++ ((kids0.1.map eS).map PV.d))) rfl TT.tyA_52 rfl rfl rfl rfl rfl (len_app (A := [pI (3), .full (([] : (List UInt8)).map byteD), pS ([] : List UInt8)]) (b := 16) rfl (len_map2 _) rfl) (le_of_len (len_app (A := [pI (0), .full (([] : (List UInt8)).map byteD), pS ([] : List UInt8)]) (b := 16) rfl (len_map2 _) rfl) bL) (spl_same ((len_app (A := [pI (0), .full (([] : (List UInt8)).map byteD), pS ([] : List UInt8)]) (b := 16) rfl (len_map2 _) rfl).trans (len_app (A := [pI (3), .full (([] : (List UInt8)).map byteD), pS ([] : List UInt8)]) (b := 16) rfl (len_map2 _) rfl).symm)) ?_)
  refine XK.nz ?_
  refine QW.ret zL ?_
  obtain rfl := sO h
  exact Ends.one (.inr rfl) rfl (ResIs.cell rfl rfl TT.tyA_52 (ldv_whole (len_app (A := [pI (3), .full (([] : (List UInt8)).map byteD), pS ([] : List UInt8)]) (b := 16) rfl (len_map2 _) rfl) (Nat.succ_pos _))) (by simp only [PV.toD, PV.toDs, toDs_appS, toDs_map, Option.bind_some, Option.map_some, cNode] <;> rfl) rfl
noncomputable def gs_node_Check_1 (self : (List UInt8) → Option Bool) (k0 : (List UInt8)) : Option Bool :=
    ((self k0).bind fun (x_1 : Bool) =>
    some (!x_1))
theorem sims_node_Check_1 (self : (List UInt8) → Option Bool) (hself : ∀ (y0 : (List UInt8)) (rr : Bool), self y0 = some rr → Fun Try.prog 47 [.val (sV y0)] (.val (.bool rr))) (k0 : (List UInt8)) (r : Bool) (h : gs_node_Check_1 self k0 = some r) : Fun Try.prog 101 [.val (sV k0)] (.val (.bool r)) := by
  refine Fun.of_bodyQ Try.func101 rfl (by simp [Try.ntmps101]) ?_
  rw [Try.ntmps101, TT.res_101]
  refine QW.view (s' := ⟨tab [(0, pS k0)], tabH [], 0, []⟩) (View.init (by rfl)) zL ?_
  unfold gs_node_Check_1 at h
  refine sR ?_
  refine xz 2 (pB false) ?_
  refine sR ?_
  refine xm 3 (pS k0) ?_
  obtain ⟨x_1, hx_2, h⟩ := bO h
  refine xs 4 rfl (sf_call rfl rfl TT.enters_47 rfl (hself k0 _ hx_2) ?_)
  refine xs 5 rfl (sf_not rfl rfl ?_)
  refine xz 2 (pB (!x_1)) ?_
  refine QW.ret zL ?_
  obtain rfl := sO h
  exact Ends.one (.inr rfl) rfl (ResIs.tmp rfl) rfl rfl
noncomputable def g_slices_Clone_string_string (v0 : (List (List UInt8))) : Option (List (List UInt8)) :=
    gO (v0.length * 16 ≤ 140737488355328) (
    some v0)
theorem sim_slices_Clone_string_string (v0 : (List (List UInt8))) (r : (List (List UInt8))) (h : g_slices_Clone_string_string v0 = some r) : Spec Try.prog 117 [.d (.slice (v0.map eS))] (tabH []) 0 (postX (.ret (.vrow 0 0 r.length)) (tabH [.var (rowC (r.map eS))]) 1) := by
  refine Spec.of_bodyS Try.func117 rfl (by simp [Try.ntmps117]) bL ?_
  rw [Try.ntmps117, TT.res_117]
  refine QW.view (s' := ⟨tab [(0, .d (.slice (v0.map eS)))], tabH [], 0, []⟩) (View.initP zL (by rfl)) zL ?_
  unfold g_slices_Clone_string_string at h
  refine sR ?_
  refine xz 2 (.full (([] : (List (List UInt8))).map eS)) ?_
  refine QW.seq ?_
  refine sR ?_
  refine xm 3 (.d (.slice (v0.map eS))) ?_
  refine XK.nt (l := v0) (some 4) rfl rfl rfl TT.under_62 rfl (fun e0 => ?_) ?_
  · refine XK.nz ?_
    refine QW.condT rfl ?_
    refine sR ?_
    refine xz 2 (.full (([] : (List (List UInt8))).map eS)) ?_
    refine QW.ret zL (thR ?_)
    subst e0; obtain ⟨_, h⟩ := gO_get h; obtain rfl := sO h
    exact EndsS.one (s' := ⟨tab [(2, .vrow 0 0 0)], tabH [.var (rowC (([] : (List (List UInt8))).map eS))], 1, []⟩) (.inr rfl) (View.trans (View.bufR 2 rfl zL) (View.mk 1 [0] _ _ _ rfl rfl (by decide) (iC trivial) (And.intro (by simp only [atH1, rowC, PV.res_d]; rfl) trivial) rfl zL rfl)) rfl bL (fun i hi => tabH_app [.var (rowC (([] : (List (List UInt8))).map eS))] [] i hi) rfl (by simp [HO.idsLts, HO.idsLt, PV.idsLts, PV.idsLt, idsLts_d, rowC]) (ResIs.tmp rfl) (by simp [PV.idsLts, PV.idsLt, idsLts_d])
  · refine XK.nz ?_
    refine QW.condF rfl ?_
    refine QW.skip zL (nrm ?_)
    refine sR ?_
    refine xs 5 rfl (sf_row (en := eS) (l := ([] : List (List UInt8))) rfl TT.rowA_62 lay_S rfl rfl (by decide) (by simp [solids, partsP, evP, ofVal, PV.solid, putS_at, tab, unS, unT, unC, asCond, Value.oneCell']) ?_)
    refine xm 6 (.d (.slice (v0.map eS))) ?_
    obtain ⟨c_1, h⟩ := gO_get h
    refine XK.so (some 7) rfl rfl (so_appT (en := eS) (l2 := v0) rfl TT.rowA_62 TT.under_62 rfl lay_S rfl rfl c_1 (by decide) ?_)
    refine xz 2 (.vrow 0 0 v0.length) ?_
    refine QW.ret zL ?_
    obtain rfl := sO h
    exact EndsS.one (s' := ⟨tab [(2, .vrow 0 0 v0.length)], tabH [.var (rowC (v0.map eS))], 1, []⟩) (.inr rfl) (View.mk 1 [0] _ _ _ rfl rfl (by decide) (iC trivial) (And.intro (by simp only [atH1, rowC, PV.res_d]; rfl) trivial) rfl zL rfl) rfl bL (fun i hi => tabH_app [.var (rowC (v0.map eS))] [] i hi) rfl (by simp [HO.idsLts, HO.idsLt, PV.idsLts, PV.idsLt, idsLts_d, rowC]) (ResIs.tmp rfl) (by simp [PV.idsLts, PV.idsLt, idsLts_d])
inductive C_slices_IndexFunc_string_string where
  | S
  | L1 (v8 : Int)
noncomputable def step_slices_IndexFunc_string_string (v0 : (List (List UInt8))) (f1 : (List UInt8) → Option Bool) : C_slices_IndexFunc_string_string → Option (C_slices_IndexFunc_string_string ⊕ Int)
  | .S =>
    some (.inl (.L1 (0)))
  | .L1 v8 =>
    (bif (decide (v8 < (v0.length : Int))) then
    gO (0 ≤ v8 ∧ v8 < (v0.length : Int)) (
    ((f1 (idx v0 v8)).bind fun (x_4 : Bool) =>
    (bif x_4 then
    some (.inr v8)
    else
    gO (inI (v8 + (1 : Int))) (
    some (.inl (.L1 (v8 + (1 : Int))))))))
    else
    some (.inr (-1)))
noncomputable def g_slices_IndexFunc_string_string (v0 : (List (List UInt8))) (f1 : (List UInt8) → Option Bool) : Option Int := theC (step_slices_IndexFunc_string_string v0 f1) .S
theorem sim_slices_IndexFunc_string_string (v0 : (List (List UInt8))) (f1 : (List UInt8) → Option Bool) (fn1 : Nat) (cp1 : List D) (he1 : entersB Try.prog fn1 = true) (hf1 : ∀ y0 r, f1 y0 = some r → Fun Try.prog fn1 ([.val (sV y0)] ++ cp1) (.val (.bool r))) (r : Int) (h : g_slices_IndexFunc_string_string v0 f1 = some r) : Fun Try.prog 132 [.slice (v0.map eS), .clo fn1 cp1] (.val (.int .i64 r)) := by
  refine Fun.of_bodyQ Try.func132 rfl (by simp [Try.ntmps132]) ?_
  rw [Try.ntmps132, TT.res_132]
  refine QW.view (s' := ⟨tab [(0, .d (.slice (v0.map eS))), (1, .d (.clo fn1 cp1))], tabH [], 0, []⟩) (View.init (by rfl)) zL ?_
  replace h := theC_get h
  obtain ⟨_, h⟩ := h
  obtain ⟨k_0, rfl, h9⟩ := run_succ h; replace h := h9; clear h9; rw [step_slices_IndexFunc_string_string] at h
  refine sR ?_
  refine xz 4 (pI (0)) ?_
  refine QW.seq ?_
  refine sR ?_
  refine xm 6 (.d (.slice (v0.map eS))) ?_
  refine xs 7 rfl (sf_lenL (en := eS) (l := v0) rfl TT.under_62 rfl ?_)
  refine xm 8 (pI (0)) ?_
  refine XK.nz ?_
  refine QW.block ?_
  refine QW.loop (fun k σ => ∃ v8 : Int, k ≤ k_0 ∧ run (step_slices_IndexFunc_string_string v0 f1) k (.L1 v8) = some r ∧ σ = ⟨tab [(0, .d (.slice (v0.map eS))), (1, .d (.clo fn1 cp1)), (7, pI (v0.length : Int)), (8, pI v8)], tabH [], 0, []⟩) k_0 zL ⟨⟨tab [(0, .d (.slice (v0.map eS))), (1, .d (.clo fn1 cp1)), (7, pI (v0.length : Int)), (8, pI (0))], tabH [], 0, []⟩, View.mk 0 [] _ _ _ rfl rfl (by decide) (iC (iC (iC (iC trivial)))) trivial rfl zL rfl, 0, Nat.le_refl _, jG h, rfl⟩ ?_
  rintro k_1s _ ⟨v8, k_1h, h, rfl⟩
  obtain ⟨k_1, rfl, h9⟩ := run_succ h; replace h := h9; clear h9; rw [step_slices_IndexFunc_string_string] at h
  refine sR ?_
  refine xs 9 rfl (sf_lss (a := v8) (b := (v0.length : Int)) rfl rfl rfl ?_)
  refine XK.nz ?_
  refine QW.seq ?_
  refine QW.cond (t := (decide (v8 < (v0.length : Int)))) rfl zL (fun hb_2 => ?_) (fun hb_2 => ?_)
  · replace h := bGT h hb_2
    refine QW.skip zL (nrm ?_)
    refine QW.seq ?_
    refine QW.block ?_
    refine sR ?_
    refine xm 10 (pI v8) ?_
    refine xz 5 (pI v8) ?_
    refine sR ?_
    refine xm 11 (.d (.clo fn1 cp1)) ?_
    refine xm 12 (.d (.slice (v0.map eS))) ?_
    refine xm 13 (pI v8) ?_
    obtain ⟨c_3, h⟩ := gG h
    refine xs 14 rfl (sf_idxA (l := v0) (i := v8) rfl TT.slcA_62 lay_S rfl rfl c_3 ?_)
    refine xs 15 rfl (sf_ldC (d := .val (sV (idx v0 v8))) rfl TT.tyA_9 rfl (LdC.one) ?_)
    obtain ⟨x_4, hx_5, h⟩ := bG h
    refine xs 16 rfl (sf_clo rfl rfl rfl he1 rfl (hf1 (idx v0 v8) _ hx_5) ?_)
    refine XK.nz ?_
    refine QW.cond (t := x_4) rfl zL (fun hb_6 => ?_) (fun hb_6 => ?_)
    · replace h := bGT h hb_6
      refine sR ?_
      refine xm 17 (pI v8) ?_
      refine xz 4 (pI v8) ?_
      refine QW.ret zL (blR (thR (thR (blR (thR ?_)))))
      obtain rfl := sG h
      exact Ends.one (.inr rfl) rfl (ResIs.tmp rfl) rfl rfl
    · replace h := bGF h hb_6
      refine QW.skip zL (blN (nrm ?_))
      refine rG ?_
      obtain ⟨c_7, h⟩ := gG h
      refine xs 18 rfl (sf_add (a := v8) (b := (1 : Int)) rfl rfl rfl c_7 ?_)
      refine xm 8 (pI (v8 + (1 : Int))) ?_
      refine XK.nz ?_
      exact ⟨k_1, by omega, ⟨tab [(0, .d (.slice (v0.map eS))), (1, .d (.clo fn1 cp1)), (7, pI (v0.length : Int)), (8, pI (v8 + (1 : Int)))], tabH [], 0, []⟩, View.mk 0 [] _ _ _ rfl rfl (by decide) (iC (iC (iC (iC trivial)))) trivial rfl zL rfl, (v8 + (1 : Int)), by omega, jG h, rfl⟩
  · replace h := bGF h hb_2
    refine QW.exit zL (thX (thX (exE (nrm ?_))))
    refine sR ?_
    refine xz 4 (pI (-1)) ?_
    refine QW.ret zL ?_
    obtain rfl := sG h
    exact Ends.one (.inr rfl) rfl (ResIs.tmp rfl) rfl rfl
inductive C_slices_DeleteFunc_string_string where
  | S
  | L1 (v5_3 : Int) (v6_2 : Int) (c0_2 : (List (List UInt8)))
noncomputable def step_slices_DeleteFunc_string_string (f1 : (List UInt8) → Option Bool) (v0 : (List (List UInt8))) : C_slices_DeleteFunc_string_string → Option (C_slices_DeleteFunc_string_string ⊕ (List (List UInt8)))
  | .S =>
    ((g_slices_IndexFunc_string_string v0 f1).bind fun (x_1 : Int) =>
    (bif (decide (x_1 = (-1 : Int))) then
    some (.inr v0)
    else
    gO (inI (x_1 + (1 : Int))) (
    some (.inl (.L1 x_1 (x_1 + (1 : Int)) v0)))))
  | .L1 v5_3 v6_2 c0_2 =>
    (bif (decide (v6_2 < ((v0.length : Nat) : Int))) then
    ((gO (0 ≤ v6_2 ∧ v6_2 < ((v0.length : Nat) : Int)) (
    gO (0 ≤ v6_2 ∧ v6_2 < (c0_2.length : Int)) (
    ((f1 (idx c0_2 v6_2)).bind fun (x_9 : Bool) =>
    (bif (!x_9) then
    gO (0 ≤ v5_3 ∧ v5_3 < ((v0.length : Nat) : Int)) (
    gO (0 ≤ v5_3 ∧ v5_3 < (c0_2.length : Int)) (
    gO (inI (v5_3 + (1 : Int))) (
    some ((v5_3 + (1 : Int)), (c0_2.set v5_3.toNat (idx c0_2 v6_2))))))
    else
    some (v5_3, c0_2))))) : Option (Int × (List (List UInt8)))).bind fun (v5_5, c0_4) =>
    gO (inI (v6_2 + (1 : Int))) (
    some (.inl (.L1 v5_5 (v6_2 + (1 : Int)) c0_4))))
    else
    gO (0 ≤ v5_3 ∧ v5_3 ≤ ((v0.length : Nat) : Int) ∧ ((v0.length : Nat) : Int) ≤ ((v0.length : Nat) : Int)) (
    gO ((v0.length) = c0_2.length) (
    gO (0 ≤ (0 : Int) ∧ (0 : Int) ≤ v5_3 ∧ v5_3 ≤ ((v0.length : Nat) : Int)) (
    gO (((v5_3 - (0 : Int)).toNat) = (c0_2.take v5_3.toNat).length) (
    some (.inr (c0_2.take v5_3.toNat)))))))
noncomputable def g_slices_DeleteFunc_string_string (f1 : (List UInt8) → Option Bool) (v0 : (List (List UInt8))) : Option (List (List UInt8)) := theC (step_slices_DeleteFunc_string_string f1 v0) .S
theorem sim_slices_DeleteFunc_string_string (f1 : (List UInt8) → Option Bool) (fn1 : Nat) (cp1 : List D) (he1 : entersB Try.prog fn1 = true) (hf1 : ∀ y0 r, f1 y0 = some r → Fun Try.prog fn1 ([.val (sV y0)] ++ cp1) (.val (.bool r))) (v0 : (List (List UInt8))) (r : (List (List UInt8))) (h : g_slices_DeleteFunc_string_string f1 v0 = some r) : Spec Try.prog 116 [.vrow 0 0 v0.length, .d (.clo fn1 cp1)] (tabH [.var (rowC (v0.map eS))]) 1 (postX (.ret (.d (.slice (r.map eS)))) (tabH [.dead]) 1) := by
  refine Spec.of_bodyS Try.func116 rfl (by simp [Try.ntmps116]) bL ?_
  rw [Try.ntmps116, TT.res_116]
  refine QW.view (s' := ⟨tab [(0, .vrow 0 0 v0.length), (1, .d (.clo fn1 cp1))], tabH [.var (rowC (v0.map eS))], 1, []⟩) (View.initP bL (by rfl)) bL ?_
  replace h := theC_get h
  obtain ⟨_, h⟩ := h
  obtain ⟨k_0, rfl, h9⟩ := run_succ h; replace h := h9; clear h9; rw [step_slices_DeleteFunc_string_string] at h
  refine sRb ?_
  refine xz 4 (.full (([] : (List (List UInt8))).map eS)) ?_
  refine sRb ?_
  refine xm 8 (.vrow 0 0 v0.length) ?_
  refine xm 9 (.d (.clo fn1 cp1)) ?_
  obtain ⟨x_1, hx_2, h⟩ := bG h
  refine XK.so (some 10) rfl rfl (so_peek (l := v0.map eS) rfl rfl rfl TT.enters_132 rfl rfl (by simp) rfl (sim_slices_IndexFunc_string_string v0 f1 fn1 cp1 he1 hf1 _ hx_2) ?_)
  refine xz 5 (pI x_1) ?_
  refine QW.seq ?_
  refine sRb ?_
  refine xm 11 (pI x_1) ?_
  refine xs 12 rfl (sf_eq (a := x_1) (b := (-1 : Int)) rfl rfl rfl ?_)
  refine XK.nz ?_
  refine QW.cond (t := (decide (x_1 = (-1 : Int)))) rfl bL (fun hb_3 => ?_) (fun hb_3 => ?_)
  · replace h := bGT h hb_3
    refine sRb ?_
    refine xm 13 (.vrow 0 0 v0.length) ?_
    refine xz 4 (.vrow 0 0 v0.length) ?_
    refine QW.ret bL (thR ?_)
    obtain rfl := sG h
    exact EndsS.one (s' := ⟨tab [(4, .d (.slice (v0.map eS)))], tabH [.dead], 1, []⟩) (.inr rfl) (View.trans (View.freezeR0 (en := eS) (l := v0) 0 4 rfl rfl rfl bL) (View.mk 1 [0] _ _ _ rfl rfl (by decide) (iC trivial) (And.intro trivial trivial) rfl bL rfl)) rfl bL (fun i hi => tabH_app [.dead] [] i hi) rfl (by simp [HO.idsLts, HO.idsLt, PV.idsLts, PV.idsLt, idsLts_d, rowC]) (ResIs.tmp rfl) (by simp [PV.idsLts, PV.idsLt, idsLts_d])
  · replace h := bGF h hb_3
    refine QW.skip bL (nrm ?_)
    refine QW.seq ?_
    refine sRb ?_
    refine xm 14 (pI x_1) ?_
    obtain ⟨c_4, h⟩ := gG h
    refine xs 15 rfl (sf_add (a := x_1) (b := (1 : Int)) rfl rfl rfl c_4 ?_)
    refine xz 6 (pI (x_1 + (1 : Int))) ?_
    refine QW.block ?_
    refine QW.loop (fun k σ => ∃ v5_3 : Int, ∃ v6_2 : Int, ∃ c0_2 : (List (List UInt8)), k ≤ k_0 ∧ run (step_slices_DeleteFunc_string_string f1 v0) k (.L1 v5_3 v6_2 c0_2) = some r ∧ σ = ⟨tab [(0, .vrow 0 0 v0.length), (1, .d (.clo fn1 cp1)), (5, pI v5_3), (6, pI v6_2)], tabH [.var (rowC (c0_2.map eS))], 1, []⟩) k_0 bL ⟨⟨tab [(0, .vrow 0 0 v0.length), (1, .d (.clo fn1 cp1)), (5, pI x_1), (6, pI (x_1 + (1 : Int)))], tabH [.var (rowC (v0.map eS))], 1, []⟩, View.mk 1 [0] _ _ _ rfl rfl (by decide) (iC (iC (iC (iC trivial)))) (And.intro (by simp only [atH1, rowC, PV.res_d]; rfl) trivial) rfl bL rfl, x_1, (x_1 + (1 : Int)), v0, Nat.le_refl _, jG h, rfl⟩ ?_
    rintro k_5s _ ⟨v5_3, v6_2, c0_2, k_5h, h, rfl⟩
    obtain ⟨k_5, rfl, h9⟩ := run_succ h; replace h := h9; clear h9; rw [step_slices_DeleteFunc_string_string] at h
    refine QW.seq ?_
    refine sRb ?_
    refine xm 16 (pI v6_2) ?_
    refine xm 17 (.vrow 0 0 v0.length) ?_
    refine XK.so (some 18) rfl rfl (so_lenR rfl TT.under_62 rfl ?_)
    refine xs 19 rfl (sf_lss (a := v6_2) (b := ((v0.length : Nat) : Int)) rfl rfl rfl ?_)
    refine XK.nz ?_
    refine QW.cond (t := (decide (v6_2 < ((v0.length : Nat) : Int)))) rfl bL (fun hb_6 => ?_) (fun hb_6 => ?_)
    · replace h := bGT h hb_6
      refine QW.skip bL (nrm ?_)
      obtain ⟨⟨v5_5, c0_4⟩, hq, h⟩ := bG h
      refine QW.seqI (fun s' => s' = ⟨tab [(0, .vrow 0 0 v0.length), (1, .d (.clo fn1 cp1)), (5, pI v5_5), (6, pI v6_2)], tabH [.var (rowC (c0_4.map eS))], 1, []⟩) ?_ ?_
      · replace h := hq; clear hq
        refine QW.block ?_
        refine sRb ?_
        refine xm 22 (.vrow 0 0 v0.length) ?_
        refine xm 23 (pI v6_2) ?_
        obtain ⟨c_7, h⟩ := gO_get h
        obtain ⟨c_8, h⟩ := gO_get h
        refine XK.so (some 24) rfl rfl (so_idxR (i := v6_2) rfl TT.slcA_62 rfl rfl c_7 ?_)
        refine xs 25 rfl (sf_ldV (v := pS (idx c0_2 v6_2)) rfl TT.tyA_9 rfl rfl (ldv_rowO lay_S c_8) ?_)
        refine xz 7 (pS (idx c0_2 v6_2)) ?_
        refine sRb ?_
        refine xm 26 (.d (.clo fn1 cp1)) ?_
        refine xm 27 (pS (idx c0_2 v6_2)) ?_
        obtain ⟨x_9, hx_10, h⟩ := bO h
        refine xs 28 rfl (sf_clo rfl rfl rfl he1 rfl (hf1 (idx c0_2 v6_2) _ hx_10) ?_)
        refine xs 29 rfl (sf_not rfl rfl ?_)
        refine XK.nz ?_
        refine QW.cond (t := (!x_9)) rfl bL (fun hb_11 => ?_) (fun hb_11 => ?_)
        · replace h := bT h hb_11
          refine sRb ?_
          refine xm 30 (.vrow 0 0 v0.length) ?_
          refine xm 31 (pI v5_3) ?_
          refine xm 32 (pS (idx c0_2 v6_2)) ?_
          obtain ⟨c_12, h⟩ := gO_get h
          obtain ⟨c_13, h⟩ := gO_get h
          refine XK.so (some 33) rfl rfl (so_idxR (i := v5_3) rfl TT.slcA_62 rfl rfl c_12 ?_)
          refine XK.st none rfl rfl (sf_stV (c := ([.val (sV (idx c0_2 v6_2))]).map .d) (l' := (rowC ((c0_2.set v5_3.toNat (idx c0_2 v6_2)).map eS))) rfl TT.tyA_9 rfl rfl rfl rfl rfl rfl (le_row lay_S c_13) (spl_row lay_S c_13) ?_)
          refine XK.nz ?_
          refine rGb ?_
          refine xm 34 (pI v5_3) ?_
          obtain ⟨c_14, h⟩ := gO_get h
          refine xs 35 rfl (sf_add (a := v5_3) (b := (1 : Int)) rfl rfl rfl c_14 ?_)
          refine xa 5 (pI (v5_3 + (1 : Int))) ?_
          refine XK.nil (blN (nrm ?_))
          simp only [Option.some.injEq, Prod.mk.injEq] at h
          obtain ⟨rfl, rfl⟩ := h
          exact ⟨⟨tab [(0, .vrow 0 0 v0.length), (1, .d (.clo fn1 cp1)), (5, pI (v5_3 + (1 : Int))), (6, pI v6_2)], tabH [.var (rowC ((c0_2.set v5_3.toNat (idx c0_2 v6_2)).map eS))], 1, []⟩, View.mk 1 [0] _ _ _ rfl rfl (by decide) (iC (iC (iC (iC trivial)))) (And.intro (by simp only [atH1, rowC, PV.res_d]; rfl) trivial) rfl bL rfl, rfl⟩
        · replace h := bF h hb_11
          refine QW.skip bL (blN (nrm ?_))
          simp only [Option.some.injEq, Prod.mk.injEq] at h
          obtain ⟨rfl, rfl⟩ := h
          exact ⟨⟨tab [(0, .vrow 0 0 v0.length), (1, .d (.clo fn1 cp1)), (5, pI v5_3), (6, pI v6_2)], tabH [.var (rowC (c0_2.map eS))], 1, []⟩, View.mk 1 [0] _ _ _ rfl rfl (by decide) (iC (iC (iC (iC trivial)))) (And.intro (by simp only [atH1, rowC, PV.res_d]; rfl) trivial) rfl bL rfl, rfl⟩
      · rintro _ rfl
        refine rGb ?_
        refine xm 20 (pI v6_2) ?_
        obtain ⟨c_15, h⟩ := gG h
        refine xs 21 rfl (sf_add (a := v6_2) (b := (1 : Int)) rfl rfl rfl c_15 ?_)
        refine xz 6 (pI (v6_2 + (1 : Int))) ?_
        exact ⟨k_5, by omega, ⟨tab [(0, .vrow 0 0 v0.length), (1, .d (.clo fn1 cp1)), (5, pI v5_5), (6, pI (v6_2 + (1 : Int)))], tabH [.var (rowC (c0_4.map eS))], 1, []⟩, View.mk 1 [0] _ _ _ rfl rfl (by decide) (iC (iC (iC (iC trivial)))) (And.intro (by simp only [atH1, rowC, PV.res_d]; rfl) trivial) rfl bL rfl, v5_5, (v6_2 + (1 : Int)), c0_4, by omega, jG h, rfl⟩
    · replace h := bGF h hb_6
      refine QW.exit bL (thX (thX (exE (nrm ?_))))
      refine sRb ?_
      refine xm 36 (.vrow 0 0 v0.length) ?_
      refine xm 37 (pI v5_3) ?_
      obtain ⟨c_16, h⟩ := gG h
      refine XK.so (some 38) rfl rfl (so_slR (p := v5_3) (q := ((v0.length : Nat) : Int)) rfl TT.slcA_62 rfl rfl rfl c_16 ?_)
      obtain ⟨c_17, h⟩ := gG h
      refine XK.so none rfl rfl (so_clear (l' := (rowC ((c0_2.take v5_3.toNat).map eS))) rfl TT.rowA_62 TT.rowZ_62 rfl rfl (clr_le lay_S c_16 c_17) (clr_take lay_S c_16 c_17) ?_)
      refine XK.nz ?_
      refine sRb ?_
      refine xm 39 (.vrow 0 0 v0.length) ?_
      refine xm 40 (pI v5_3) ?_
      obtain ⟨c_18, h⟩ := gG h
      refine XK.so (some 41) rfl rfl (so_slR (p := (0 : Int)) (q := v5_3) rfl TT.slcA_62 rfl rfl rfl c_18 ?_)
      refine xz 4 (.vrow 0 0 (v5_3 - (0 : Int)).toNat) ?_
      refine QW.ret bL ?_
      obtain ⟨c_19, h⟩ := gG h
      obtain rfl := sG h
      exact EndsS.one (s' := ⟨tab [(4, .d (.slice ((c0_2.take v5_3.toNat).map eS)))], tabH [.dead], 1, []⟩) (.inr rfl) (View.trans (View.freezeR0 (en := eS) (l := (c0_2.take v5_3.toNat)) 0 4 rfl rfl c_19 bL) (View.mk 1 [0] _ _ _ rfl rfl (by decide) (iC trivial) (And.intro trivial trivial) rfl bL rfl)) rfl bL (fun i hi => tabH_app [.dead] [] i hi) rfl (by simp [HO.idsLts, HO.idsLt, PV.idsLts, PV.idsLt, idsLts_d, rowC]) (ResIs.tmp rfl) (by simp [PV.idsLts, PV.idsLt, idsLts_d])
noncomputable def g_node_Kids_1 (k0 : (List UInt8)) : Option Bool :=
    some (k0 == ([] : List UInt8))
theorem sim_node_Kids_1 (k0 : (List UInt8)) (r : Bool) (h : g_node_Kids_1 k0 = some r) : Fun Try.prog 118 [.val (sV k0)] (.val (.bool r)) := by
  refine Fun.of_bodyQ Try.func118 rfl (by simp [Try.ntmps118]) ?_
  rw [Try.ntmps118, TT.res_118]
  refine QW.view (s' := ⟨tab [(0, pS k0)], tabH [], 0, []⟩) (View.init (by rfl)) zL ?_
  unfold g_node_Kids_1 at h
  refine sR ?_
  refine xz 2 (pB false) ?_
  refine sR ?_
  refine xm 3 (pS k0) ?_
  refine xs 4 rfl (sf_seq (a := k0) (b := ([] : List UInt8)) rfl rfl rfl ?_)
  refine xz 2 (pB (k0 == ([] : List UInt8))) ?_
  refine QW.ret zL ?_
  obtain rfl := sO h
  exact Ends.one (.inr rfl) rfl (ResIs.tmp rfl) rfl rfl
noncomputable def g_node_Kids (n0 : Node) : Option (List (List UInt8)) :=
    ((g_slices_Clone_string_string ((n0.fKids).1)).bind fun (q_3 : (List (List UInt8))) =>
    ((g_slices_DeleteFunc_string_string (fun y0 => g_node_Kids_1 y0) q_3).bind fun (q_6 : (List (List UInt8))) =>
    some q_6))
theorem sim_node_Kids (n0 : Node) (r : (List (List UInt8))) (h : g_node_Kids n0 = some r) : Fun Try.prog 45 [.agg (cNode n0)] (.slice (r.map eS)) := by
  refine Fun.of_bodyQ Try.func45 rfl (by simp [Try.ntmps45]) ?_
  rw [Try.ntmps45, TT.res_45]
  refine QW.view (s' := ⟨tab [(0, .d (.agg (cNode n0)))], tabH [], 0, []⟩) (View.init (by rfl)) zL ?_
  unfold g_node_Kids at h
  refine sR ?_
  refine XK.fz (some 1) rfl rfl (sf_boxF (ds := cNode n0) rfl rfl rfl rfl toDs_map ?_)
  refine xz 2 (.full (([] : (List (List UInt8))).map eS)) ?_
  refine sR ?_
  refine xs 3 rfl (sf_fldC rfl TT.fldA_52_3 (by decide) rfl ?_)
  refine XK.as (some 4) rfl rfl (sf_subA0 (en := eS) (a := n0.fKids) rfl TT.under_50 TT.arrA_50 (pre_Node_3 _) (flat_drop (flat_Node _)) rfl ⟨.d (.slice (((n0.fKids).1).map eS)), (Imp.toD rfl), ?_⟩)
  obtain ⟨q_3, hx_2, h⟩ := bO h
  refine XK.fr (p := .vrow 0 0 q_3.length) (H2 := putH _ 0 (some (.var (rowC (q_3.map eS))))) (nx2 := 1) (some 5) rfl rfl (xcall_frame [] rfl rfl TT.enters_117 (sim_slices_Clone_string_string ((n0.fKids).1) _ hx_2) rfl rfl (by decide) trivial bL) rfl (by simp only [putsR, lv, HO.re, rowC, PV.res_d, res_app]; rfl) rfl ?_
  obtain ⟨q_6, hx_5, h⟩ := bO h
  refine XK.fr (p := .d (.slice (q_6.map eS))) (H2 := putH _ 0 none) (nx2 := 1) (some 6) rfl rfl (xcall_frame [0] rfl rfl TT.enters_116 (sim_slices_DeleteFunc_string_string (fun y0 => g_node_Kids_1 y0) 118 [] TT.enters_118 (fun y0 _ h => sim_node_Kids_1 y0 _ h) q_3 _ hx_5) rfl rfl (by decide) (And.intro (by simp only [HO.re, rowC, PV.res_d]; rfl) trivial) bL) rfl rfl rfl ?_
  refine xz 2 (.d (.slice (q_6.map eS))) ?_
  refine QW.ret zL ?_
  obtain rfl := sO h
  exact Ends.one (.inr rfl) rfl (ResIs.tmp rfl) rfl rfl
noncomputable def g_node_shape (n0 : Node) : Option Bool :=
    ((g_node_Kids n0).bind fun (x_1 : (List (List UInt8))) =>
    (bif (decide ((n0.fKind) = (1 : Int))) then
    some (((!(n0.fValue == ([] : List UInt8))) && (decide (((n0.fValue).length : Int) ≤ (65552 : Int)))) && (decide ((x_1.length : Int) = (0 : Int))))
    else
    (bif (decide ((n0.fKind) = (2 : Int))) then
    some ((((n0.fValue == ([] : List UInt8)) && (decide ((0 : Int) < ((n0.fPath).length : Int)))) && (decide ((x_1.length : Int) = (1 : Int)))) && (!((idx (n0.fKids).1 (0 : Int)) == ([] : List UInt8))))
    else
    (bif (decide ((n0.fKind) = (3 : Int))) then
    some (((n0.fValue == ([] : List UInt8)) && (decide (((n0.fPath).length : Int) = (0 : Int)))) && (decide ((1 : Int) < (x_1.length : Int))))
    else
    some false))))
theorem sim_node_shape (n0 : Node) (r : Bool) (h : g_node_shape n0 = some r) : Fun Try.prog 102 [.agg (cNode n0)] (.val (.bool r)) := by
  refine Fun.of_bodyQ Try.func102 rfl (by simp [Try.ntmps102]) ?_
  rw [Try.ntmps102, TT.res_102]
  refine QW.view (s' := ⟨tab [(0, .d (.agg (cNode n0)))], tabH [], 0, []⟩) (View.init (by rfl)) zL ?_
  unfold g_node_shape at h
  refine sR ?_
  refine XK.fz (some 1) rfl rfl (sf_boxF (ds := cNode n0) rfl rfl rfl rfl toDs_map ?_)
  refine xz 2 (pB false) ?_
  refine sR ?_
  refine xs 4 rfl (sf_ldC (d := .agg (cNode n0)) rfl TT.tyA_52 rfl (⟨by rw [lay_Node.len]; decide, congrArg D.agg (List.take_of_length_le (by rw [lay_Node.len]; decide))⟩) ?_)
  obtain ⟨x_1, hx_2, h⟩ := bO h
  refine xs 5 rfl (sf_call rfl rfl TT.enters_45 rfl (sim_node_Kids n0 _ hx_2) ?_)
  refine xs 6 rfl (sf_lenL (en := eS) (l := x_1) rfl TT.under_62 rfl ?_)
  refine xz 3 (pI (x_1.length : Int)) ?_
  refine QW.seq ?_
  refine sR ?_
  refine xs 7 rfl (sf_fldC rfl TT.fldA_52_0 (by decide) rfl ?_)
  refine xs 8 rfl (sf_ldC (d := .val (.int .i64 (n0.fKind))) rfl TT.tyA_3 rfl (ldc_Node_0 _) ?_)
  refine XK.nz ?_
  refine QW.block ?_
  refine sR ?_
  refine xs 10 rfl (sf_eq (a := (n0.fKind)) (b := (1 : Int)) rfl rfl rfl ?_)
  refine xz 9 (pB (decide ((n0.fKind) = (1 : Int)))) ?_
  refine QW.cond (t := (decide ((n0.fKind) = (1 : Int)))) rfl zL (fun hb_3 => ?_) (fun hb_3 => ?_)
  · replace h := bT h hb_3
    refine sR ?_
    refine xs 11 rfl (sf_fldC rfl TT.fldA_52_2 (by decide) rfl ?_)
    refine xs 12 rfl (sf_ldC (d := .val (sV (n0.fValue))) rfl TT.tyA_9 rfl (ldc_Node_2 _) ?_)
    refine xs 13 rfl (sf_sne (a := n0.fValue) (b := ([] : List UInt8)) rfl rfl rfl ?_)
    refine xm 14 (pB (!(n0.fValue == ([] : List UInt8)))) ?_
    refine xg 15 (.d (.cptr ((cNode n0).drop 2))) rfl rfl (fun hg => sf_fldC rfl TT.fldA_52_2 (by decide) rfl g3) ?_
    refine xg 16 (pS (n0.fValue)) rfl rfl (fun hg => sf_ldC (d := .val (sV (n0.fValue))) rfl TT.tyA_9 rfl (ldc_Node_2 _) g3) ?_
    refine xg 17 (pI ((n0.fValue).length : Int)) rfl rfl (fun hg => sf_lenS (l := n0.fValue) rfl TT.under_9 rfl g3) ?_
    refine xg 18 (pB (decide (((n0.fValue).length : Int) ≤ (65552 : Int)))) rfl rfl (fun hg => sf_leq (a := ((n0.fValue).length : Int)) (b := (65552 : Int)) rfl rfl rfl g3) ?_
    refine xs 19 rfl (sf_pickA rfl rfl rfl rfl (fun hb => by rw [hb]; rfl) (fun _ => rfl) ?_)
    refine xm 20 (pB ((!(n0.fValue == ([] : List UInt8))) && (decide (((n0.fValue).length : Int) ≤ (65552 : Int))))) ?_
    refine xg 21 (pI (x_1.length : Int)) rfl rfl (fun hg => sf_move (v := pI (x_1.length : Int)) rfl rfl g3) ?_
    refine xg 22 (pB (decide ((x_1.length : Int) = (0 : Int)))) rfl rfl (fun hg => sf_eq (a := (x_1.length : Int)) (b := (0 : Int)) rfl rfl rfl g3) ?_
    refine xs 23 rfl (sf_pickA rfl rfl rfl rfl (fun hb => by rw [hb]; rfl) (fun _ => rfl) ?_)
    refine xz 2 (pB (((!(n0.fValue == ([] : List UInt8))) && (decide (((n0.fValue).length : Int) ≤ (65552 : Int)))) && (decide ((x_1.length : Int) = (0 : Int))))) ?_
    refine QW.ret zL (blR (thR ?_))
    obtain rfl := sO h
    exact Ends.one (.inr rfl) rfl (ResIs.tmp rfl) rfl rfl
  · replace h := bF h hb_3
    refine sR ?_
    refine xs 25 rfl (sf_eq (a := (n0.fKind)) (b := (2 : Int)) rfl rfl rfl ?_)
    refine xz 24 (pB (decide ((n0.fKind) = (2 : Int)))) ?_
    refine QW.cond (t := (decide ((n0.fKind) = (2 : Int)))) rfl zL (fun hb_4 => ?_) (fun hb_4 => ?_)
    · replace h := bT h hb_4
      refine sR ?_
      refine xs 26 rfl (sf_fldC rfl TT.fldA_52_2 (by decide) rfl ?_)
      refine xs 27 rfl (sf_ldC (d := .val (sV (n0.fValue))) rfl TT.tyA_9 rfl (ldc_Node_2 _) ?_)
      refine xs 28 rfl (sf_seq (a := n0.fValue) (b := ([] : List UInt8)) rfl rfl rfl ?_)
      refine xm 29 (pB (n0.fValue == ([] : List UInt8))) ?_
      refine xg 30 (.d (.cptr ((cNode n0).drop 1))) rfl rfl (fun hg => sf_fldC rfl TT.fldA_52_1 (by decide) rfl g3) ?_
      refine xg 31 (.d (.slice ((n0.fPath).map byteD))) rfl rfl (fun hg => sf_ldC (d := .slice ((n0.fPath).map byteD)) rfl TT.tyA_49 rfl (ldc_Node_1 _) g3) ?_
      refine xg 32 (pI ((n0.fPath).length : Int)) rfl rfl (fun hg => sf_lenL (en := byteD) (l := n0.fPath) rfl TT.under_49 rfl g3) ?_
      refine xg 33 (pB (decide ((0 : Int) < ((n0.fPath).length : Int)))) rfl rfl (fun hg => sf_gtr (a := ((n0.fPath).length : Int)) (b := (0 : Int)) rfl rfl rfl g3) ?_
      refine xs 34 rfl (sf_pickA rfl rfl rfl rfl (fun hb => by rw [hb]; rfl) (fun _ => rfl) ?_)
      refine xm 35 (pB ((n0.fValue == ([] : List UInt8)) && (decide ((0 : Int) < ((n0.fPath).length : Int))))) ?_
      refine xg 36 (pI (x_1.length : Int)) rfl rfl (fun hg => sf_move (v := pI (x_1.length : Int)) rfl rfl g3) ?_
      refine xg 37 (pB (decide ((x_1.length : Int) = (1 : Int)))) rfl rfl (fun hg => sf_eq (a := (x_1.length : Int)) (b := (1 : Int)) rfl rfl rfl g3) ?_
      refine xs 38 rfl (sf_pickA rfl rfl rfl rfl (fun hb => by rw [hb]; rfl) (fun _ => rfl) ?_)
      refine xm 39 (pB (((n0.fValue == ([] : List UInt8)) && (decide ((0 : Int) < ((n0.fPath).length : Int)))) && (decide ((x_1.length : Int) = (1 : Int))))) ?_
      refine xg 40 (.d (.cptr ((cNode n0).drop 3))) rfl rfl (fun hg => sf_fldC rfl TT.fldA_52_3 (by decide) rfl g3) ?_
      refine xg 41 (.d (.cptr (((cNode n0).drop 3).drop ((0 : Int).toNat * 1)))) rfl rfl (fun hg => sf_idxC (i := (0 : Int)) rfl TT.slcA_50 TT.arrA_50 rfl rfl (by decide) g3) ?_
      refine xg 42 (pS (idx (n0.fKids).1 (0 : Int))) rfl rfl (fun hg => sf_ldC (d := .val (sV (idx (n0.fKids).1 (0 : Int)))) rfl TT.tyA_9 rfl (ld_arr (pre_Node_3 _) (by decide)) g3) ?_
      refine xg 43 (pB (!((idx (n0.fKids).1 (0 : Int)) == ([] : List UInt8)))) rfl rfl (fun hg => sf_sne (a := (idx (n0.fKids).1 (0 : Int))) (b := ([] : List UInt8)) rfl rfl rfl g3) ?_
      refine xs 44 rfl (sf_pickA rfl rfl rfl rfl (fun hb => by rw [hb]; rfl) (fun _ => rfl) ?_)
      refine xz 2 (pB ((((n0.fValue == ([] : List UInt8)) && (decide ((0 : Int) < ((n0.fPath).length : Int)))) && (decide ((x_1.length : Int) = (1 : Int)))) && (!((idx (n0.fKids).1 (0 : Int)) == ([] : List UInt8))))) ?_
      refine QW.ret zL (blR (thR ?_))
      obtain rfl := sO h
      exact Ends.one (.inr rfl) rfl (ResIs.tmp rfl) rfl rfl
    · replace h := bF h hb_4
      refine sR ?_
      refine xs 46 rfl (sf_eq (a := (n0.fKind)) (b := (3 : Int)) rfl rfl rfl ?_)
      refine xz 45 (pB (decide ((n0.fKind) = (3 : Int)))) ?_
      refine QW.cond (t := (decide ((n0.fKind) = (3 : Int)))) rfl zL (fun hb_5 => ?_) (fun hb_5 => ?_)
      · replace h := bT h hb_5
        refine sR ?_
        refine xs 47 rfl (sf_fldC rfl TT.fldA_52_2 (by decide) rfl ?_)
        refine xs 48 rfl (sf_ldC (d := .val (sV (n0.fValue))) rfl TT.tyA_9 rfl (ldc_Node_2 _) ?_)
        refine xs 49 rfl (sf_seq (a := n0.fValue) (b := ([] : List UInt8)) rfl rfl rfl ?_)
        refine xm 50 (pB (n0.fValue == ([] : List UInt8))) ?_
        refine xg 51 (.d (.cptr ((cNode n0).drop 1))) rfl rfl (fun hg => sf_fldC rfl TT.fldA_52_1 (by decide) rfl g3) ?_
        refine xg 52 (.d (.slice ((n0.fPath).map byteD))) rfl rfl (fun hg => sf_ldC (d := .slice ((n0.fPath).map byteD)) rfl TT.tyA_49 rfl (ldc_Node_1 _) g3) ?_
        refine xg 53 (pI ((n0.fPath).length : Int)) rfl rfl (fun hg => sf_lenL (en := byteD) (l := n0.fPath) rfl TT.under_49 rfl g3) ?_
        refine xg 54 (pB (decide (((n0.fPath).length : Int) = (0 : Int)))) rfl rfl (fun hg => sf_eq (a := ((n0.fPath).length : Int)) (b := (0 : Int)) rfl rfl rfl g3) ?_
        refine xs 55 rfl (sf_pickA rfl rfl rfl rfl (fun hb => by rw [hb]; rfl) (fun _ => rfl) ?_)
        refine xm 56 (pB ((n0.fValue == ([] : List UInt8)) && (decide (((n0.fPath).length : Int) = (0 : Int))))) ?_
        refine xg 57 (pI (x_1.length : Int)) rfl rfl (fun hg => sf_move (v := pI (x_1.length : Int)) rfl rfl g3) ?_
        refine xg 58 (pB (decide ((1 : Int) < (x_1.length : Int)))) rfl rfl (fun hg => sf_gtr (a := (x_1.length : Int)) (b := (1 : Int)) rfl rfl rfl g3) ?_
        refine xs 59 rfl (sf_pickA rfl rfl rfl rfl (fun hb => by rw [hb]; rfl) (fun _ => rfl) ?_)
        refine xz 2 (pB (((n0.fValue == ([] : List UInt8)) && (decide (((n0.fPath).length : Int) = (0 : Int)))) && (decide ((1 : Int) < (x_1.length : Int))))) ?_
        refine QW.ret zL (blR (thR ?_))
        obtain rfl := sO h
        exact Ends.one (.inr rfl) rfl (ResIs.tmp rfl) rfl rfl
      · replace h := bF h hb_5
        refine QW.skip zL (blN (nrm ?_))
        refine sR ?_
        refine xz 2 (pB false) ?_
        refine QW.ret zL ?_
        obtain rfl := sO h
        exact Ends.one (.inr rfl) rfl (ResIs.tmp rfl) rfl rfl
noncomputable def g_slices_ContainsFunc_string_string (v0 : (List (List UInt8))) (f1 : (List UInt8) → Option Bool) : Option Bool :=
    ((g_slices_IndexFunc_string_string v0 f1).bind fun (x_1 : Int) =>
    some (decide ((0 : Int) ≤ x_1)))
theorem sim_slices_ContainsFunc_string_string (v0 : (List (List UInt8))) (f1 : (List UInt8) → Option Bool) (fn1 : Nat) (cp1 : List D) (he1 : entersB Try.prog fn1 = true) (hf1 : ∀ y0 r, f1 y0 = some r → Fun Try.prog fn1 ([.val (sV y0)] ++ cp1) (.val (.bool r))) (r : Bool) (h : g_slices_ContainsFunc_string_string v0 f1 = some r) : Fun Try.prog 104 [.slice (v0.map eS), .clo fn1 cp1] (.val (.bool r)) := by
  refine Fun.of_bodyQ Try.func104 rfl (by simp [Try.ntmps104]) ?_
  rw [Try.ntmps104, TT.res_104]
  refine QW.view (s' := ⟨tab [(0, .d (.slice (v0.map eS))), (1, .d (.clo fn1 cp1))], tabH [], 0, []⟩) (View.init (by rfl)) zL ?_
  unfold g_slices_ContainsFunc_string_string at h
  refine sR ?_
  refine xz 4 (pB false) ?_
  refine sR ?_
  refine xm 5 (.d (.slice (v0.map eS))) ?_
  refine xm 6 (.d (.clo fn1 cp1)) ?_
  obtain ⟨x_1, hx_2, h⟩ := bO h
  refine xs 7 rfl (sf_call rfl rfl TT.enters_132 rfl (sim_slices_IndexFunc_string_string v0 f1 fn1 cp1 he1 hf1 _ hx_2) ?_)
  refine xs 8 rfl (sf_geq (a := x_1) (b := (0 : Int)) rfl rfl rfl ?_)
  refine xz 4 (pB (decide ((0 : Int) ≤ x_1))) ?_
  refine QW.ret zL ?_
  obtain rfl := sO h
  exact Ends.one (.inr rfl) rfl (ResIs.tmp rfl) rfl rfl
noncomputable def gs_node_Check (self : (List UInt8) → Option Bool) (n0 : Node) : Option Int :=
    ((g_node_shape n0).bind fun (x_1 : Bool) =>
    ((bif ((!x_1) == false) then g_nib_Right (n0.fPath) else some default).bind fun (x_3 : Bool) =>
    ((bif ((((!x_1) || (!x_3)) || (decide ((64 : Int) < ((n0.fPath).length : Int)))) == false) then g_slices_ContainsFunc_string_string ((n0.fKids).1) (fun y0 => gs_node_Check_1 self y0) else some default).bind fun (x_5 : Bool) =>
    (bif ((((!x_1) || (!x_3)) || (decide ((64 : Int) < ((n0.fPath).length : Int)))) || x_5) then
    some (2)
    else
    some (0)))))
theorem sims_node_Check (self : (List UInt8) → Option Bool) (hself : ∀ (y0 : (List UInt8)) (rr : Bool), self y0 = some rr → Fun Try.prog 47 [.val (sV y0)] (.val (.bool rr))) (n0 : Node) (r : Int) (h : gs_node_Check self n0 = some r) : Fun Try.prog 36 [.agg (cNode n0)] (.val (.int .i64 r)) := by
  refine Fun.of_bodyQ Try.func36 rfl (by simp [Try.ntmps36]) ?_
  rw [Try.ntmps36, TT.res_36]
  refine QW.view (s' := ⟨tab [(0, .d (.agg (cNode n0)))], tabH [], 0, []⟩) (View.init (by rfl)) zL ?_
  unfold gs_node_Check at h
  refine sR ?_
  refine XK.fz (some 1) rfl rfl (sf_boxF (ds := cNode n0) rfl rfl rfl rfl toDs_map ?_)
  refine xz 2 (pI (0)) ?_
  refine sR ?_
  refine xz 3 (.d (.clo 101 [])) ?_
  refine QW.seq ?_
  refine sR ?_
  refine xs 4 rfl (sf_ldC (d := .agg (cNode n0)) rfl TT.tyA_52 rfl (⟨by rw [lay_Node.len]; decide, congrArg D.agg (List.take_of_length_le (by rw [lay_Node.len]; decide))⟩) ?_)
  obtain ⟨x_1, hx_2, h⟩ := bO h
  refine xs 5 rfl (sf_call rfl rfl TT.enters_102 rfl (sim_node_shape n0 _ hx_2) ?_)
  refine xs 6 rfl (sf_not rfl rfl ?_)
  refine xm 7 (pB (!x_1)) ?_
  refine xg 8 (.d (.cptr ((cNode n0).drop 1))) rfl rfl (fun hg => sf_fldC rfl TT.fldA_52_1 (by decide) rfl g3) ?_
  refine xg 9 (.d (.slice ((n0.fPath).map byteD))) rfl rfl (fun hg => sf_ldC (d := .slice ((n0.fPath).map byteD)) rfl TT.tyA_49 rfl (ldc_Node_1 _) g3) ?_
  obtain ⟨x_3, hx_4, h⟩ := bO h
  refine xg 10 (pB x_3) rfl rfl (fun hg => sf_call rfl rfl TT.enters_103 rfl (sim_nib_Right (n0.fPath) _ (bT hx_4 hg)) g3) ?_
  refine xg 11 (pB (!x_3)) rfl rfl (fun hg => sf_not rfl rfl g3) ?_
  refine xs 12 rfl (sf_pickO rfl rfl rfl rfl (fun _ => rfl) (fun hb => by rw [hb]; rfl) ?_)
  refine xm 13 (pB ((!x_1) || (!x_3))) ?_
  refine xg 14 (.d (.cptr ((cNode n0).drop 1))) rfl rfl (fun hg => sf_fldC rfl TT.fldA_52_1 (by decide) rfl g3) ?_
  refine xg 15 (.d (.slice ((n0.fPath).map byteD))) rfl rfl (fun hg => sf_ldC (d := .slice ((n0.fPath).map byteD)) rfl TT.tyA_49 rfl (ldc_Node_1 _) g3) ?_
  refine xg 16 (pI ((n0.fPath).length : Int)) rfl rfl (fun hg => sf_lenL (en := byteD) (l := n0.fPath) rfl TT.under_49 rfl g3) ?_
  refine xg 17 (pB (decide ((64 : Int) < ((n0.fPath).length : Int)))) rfl rfl (fun hg => sf_gtr (a := ((n0.fPath).length : Int)) (b := (64 : Int)) rfl rfl rfl g3) ?_
  refine xs 18 rfl (sf_pickO rfl rfl rfl rfl (fun _ => rfl) (fun hb => by rw [hb]; rfl) ?_)
  refine xm 19 (pB (((!x_1) || (!x_3)) || (decide ((64 : Int) < ((n0.fPath).length : Int))))) ?_
  refine xg 20 (.d (.cptr ((cNode n0).drop 3))) rfl rfl (fun hg => sf_fldC rfl TT.fldA_52_3 (by decide) rfl g3) ?_
  refine xg 21 (.full (((n0.fKids).1).map eS)) rfl rfl (fun hg => sf_subA0 (en := eS) (a := n0.fKids) rfl TT.under_50 TT.arrA_50 (pre_Node_3 _) (flat_drop (flat_Node _)) rfl g3) ?_
  refine xg 22 (.d (.clo 101 [])) rfl rfl (fun hg => sf_move (v := .d (.clo 101 [])) rfl rfl g3) ?_
  obtain ⟨x_5, hx_6, h⟩ := bO h
  refine xg 23 (pB x_5) rfl rfl (fun hg => sf_call rfl rfl TT.enters_104 rfl (sim_slices_ContainsFunc_string_string ((n0.fKids).1) (fun y0 => gs_node_Check_1 self y0) 101 [] TT.enters_101 (fun y0 _ h => sims_node_Check_1 self hself y0 _ h) _ (bT hx_6 hg)) g3) ?_
  refine xs 24 rfl (sf_pickO rfl rfl rfl rfl (fun _ => rfl) (fun hb => by rw [hb]; rfl) ?_)
  refine XK.nz ?_
  refine QW.cond (t := ((((!x_1) || (!x_3)) || (decide ((64 : Int) < ((n0.fPath).length : Int)))) || x_5)) rfl zL (fun hb_7 => ?_) (fun hb_7 => ?_)
  · replace h := bT h hb_7
    refine sR ?_
    refine xz 2 (pI (2)) ?_
    refine QW.ret zL (thR ?_)
    obtain rfl := sO h
    exact Ends.one (.inr rfl) rfl (ResIs.tmp rfl) rfl rfl
  · replace h := bF h hb_7
    refine QW.skip zL (nrm ?_)
    refine sR ?_
    refine xz 2 (pI (0)) ?_
    refine QW.ret zL ?_
    obtain rfl := sO h
    exact Ends.one (.inr rfl) rfl (ResIs.tmp rfl) rfl rfl
noncomputable def g_node_item (ref0 : (List UInt8)) : Option Item :=
    (bif ((ref0 == ([] : List UInt8)) || (decide ((ref0.length : Int) = (32 : Int)))) then
    ((g_rlp_Text ref0).bind fun (x_2 : Item) =>
    some x_2)
    else
    ((g_rlp_Whole ref0).bind fun (x_4 : (Item × Int)) =>
    some (x_4.1)))
theorem sim_node_item (ref0 : (List UInt8)) (r : Item) (h : g_node_item ref0 = some r) : Fun Try.prog 98 [.val (sV ref0)] (.agg (cItem r)) := by
  refine Fun.of_bodyQ Try.func98 rfl (by simp [Try.ntmps98]) ?_
  rw [Try.ntmps98, TT.res_98]
  refine QW.view (s' := ⟨tab [(0, pS ref0)], tabH [], 0, []⟩) (View.init (by rfl)) zL ?_
  unfold g_node_item at h
  refine sR ?_
  refine xs 2 rfl (sf_alloc (l := [pB false, pS ([] : List UInt8), .full (([] : (List Item)).map eItem)]) rfl TT.zeroA_125 rfl rfl ?_)
  refine XK.nz ?_
  refine QW.seq ?_
  refine sR ?_
  refine xm 5 (pS ref0) ?_
  refine xs 6 rfl (sf_seq (a := ref0) (b := ([] : List UInt8)) rfl rfl rfl ?_)
  refine xm 7 (pB (ref0 == ([] : List UInt8))) ?_
  refine xg 8 (pS ref0) rfl rfl (fun hg => sf_move (v := pS ref0) rfl rfl g3) ?_
  refine xg 9 (pI (ref0.length : Int)) rfl rfl (fun hg => sf_lenS (l := ref0) rfl TT.under_9 rfl g3) ?_
  refine xg 10 (pB (decide ((ref0.length : Int) = (32 : Int)))) rfl rfl (fun hg => sf_eq (a := (ref0.length : Int)) (b := (32 : Int)) rfl rfl rfl g3) ?_
  refine xs 11 rfl (sf_pickO rfl rfl rfl rfl (fun _ => rfl) (fun hb => by rw [hb]; rfl) ?_)
  refine XK.nz ?_
  refine QW.cond (t := ((ref0 == ([] : List UInt8)) || (decide ((ref0.length : Int) = (32 : Int))))) rfl zL (fun hb_1 => ?_) (fun hb_1 => ?_)
  · replace h := bT h hb_1
    refine sR ?_
    refine xm 12 (pS ref0) ?_
    obtain ⟨x_2, hx_3, h⟩ := bO h
    refine xs 13 rfl (sf_call rfl rfl TT.enters_97 rfl (sim_rlp_Text ref0 _ hx_3) ?_)
    refine XK.st none rfl rfl (sf_stV (l' := [pB (x_2.fList), pS (x_2.fS), .d (.slice ((x_2.fL).map eItem))]) rfl TT.tyA_125 rfl rfl rfl rfl rfl rfl (by simp) rfl ?_)
    refine XK.nz ?_
    refine QW.ret zL (thR ?_)
    obtain rfl := sO h
    exact Ends.one (.inr rfl) rfl (ResIs.cell rfl rfl TT.tyA_125 ⟨⟨by simp, by simp⟩, rfl⟩) rfl rfl
  · replace h := bF h hb_1
    refine QW.skip zL (nrm ?_)
    refine sR ?_
    refine xm 15 (pS ref0) ?_
    obtain ⟨x_4, hx_5, h⟩ := bO h
    refine xs 16 rfl (sf_call rfl rfl TT.enters_105 rfl (sim_rlp_Whole ref0 _ hx_5) ?_)
    refine xm 14 (.d (.tuple [.agg (cItem (x_4.1)), .val (.int .i64 (x_4.2))])) ?_
    refine xs 17 rfl (sf_extract rfl rfl rfl ?_)
    refine xs 18 rfl (sf_extract rfl rfl rfl ?_)
    refine xs 3 rfl (sf_alloc (l := [pB false, pS ([] : List UInt8), .full (([] : (List Item)).map eItem)]) rfl TT.zeroA_125 rfl rfl ?_)
    refine XK.st none rfl rfl (sf_stV (l' := [pB ((x_4.1).fList), pS ((x_4.1).fS), .d (.slice (((x_4.1).fL).map eItem))]) rfl TT.tyA_125 rfl rfl rfl rfl rfl rfl (by simp) rfl ?_)
    refine xz 4 (pI (x_4.2)) ?_
    refine sR ?_
    refine XK.as (some 19) rfl rfl (sf_ldV (v := .agg [pB ((x_4.1).fList), pS ((x_4.1).fS), .d (.slice (((x_4.1).fL).map eItem))]) rfl TT.tyA_125 rfl rfl ⟨⟨by simp, by simp⟩, rfl⟩ ⟨.d (.agg (cItem (x_4.1))), (Imp.toD rfl), ?_⟩)
    refine XK.st none rfl rfl (sf_stV (l' := [pB ((x_4.1).fList), pS ((x_4.1).fS), .d (.slice (((x_4.1).fL).map eItem))]) rfl TT.tyA_125 rfl rfl rfl rfl rfl rfl (by simp) rfl ?_)
    refine XK.nz ?_
    refine QW.ret zL ?_
    obtain rfl := sO h
    exact Ends.one (.inr rfl) rfl (ResIs.cell rfl rfl TT.tyA_125 ⟨⟨by simp, by simp⟩, rfl⟩) rfl rfl
inductive C_node_Put where
  | S
  | L1 (v7 : (List Item)) (v53 : Int)
noncomputable def step_node_Put (self : (List UInt8) → Option Bool) (n0 : Node) : C_node_Put → Option (C_node_Put ⊕ ((List UInt8) × Int))
  | .S =>
    ((gs_node_Check self n0).bind fun (x_1 : Int) =>
    (bif (!decide (x_1 = (0 : Int))) then
    some (.inr (([] : List UInt8), x_1))
    else
    ((g_nib_Pack (n0.fPath) (decide ((n0.fKind) = (1 : Int)))).bind fun (x_4 : ((List UInt8) × Int)) =>
    (bif (decide ((n0.fKind) = (1 : Int))) then
    ((g_rlp_Text (x_4.1)).bind fun (x_7 : Item) =>
    ((g_rlp_Text (n0.fValue)).bind fun (x_9 : Item) =>
    ((g_rlp_List ([x_7, x_9] : List Item)).bind fun (x_11 : Item) =>
    ((g_rlp_Put x_11).bind fun (x_13 : ((List UInt8) × Int)) =>
    some (.inr (x_13.1, x_13.2))))))
    else
    (bif (decide ((n0.fKind) = (2 : Int))) then
    ((g_rlp_Text (x_4.1)).bind fun (x_16 : Item) =>
    ((g_node_item (idx (n0.fKids).1 (0 : Int))).bind fun (x_18 : Item) =>
    ((g_rlp_List ([x_16, x_18] : List Item)).bind fun (x_20 : Item) =>
    ((g_rlp_Put x_20).bind fun (x_22 : ((List UInt8) × Int)) =>
    some (.inr (x_22.1, x_22.2))))))
    else
    some (.inl (.L1 ([] : (List Item)) (0))))))))
  | .L1 v7 v53 =>
    (bif (decide (v53 < (16 : Int))) then
    gO (0 ≤ v53 ∧ v53 < ((16 : Nat) : Int)) (
    ((g_node_item (idx (n0.fKids).1 v53)).bind fun (x_27 : Item) =>
    gO ((v7.length + ([x_27] : List Item).length) * 48 ≤ 140737488355328) (
    gO (inI (v53 + (1 : Int))) (
    some (.inl (.L1 (v7 ++ ([x_27] : List Item)) (v53 + (1 : Int))))))))
    else
    ((g_rlp_Text ([] : List UInt8)).bind fun (x_31 : Item) =>
    gO ((v7.length + ([x_31] : List Item).length) * 48 ≤ 140737488355328) (
    ((g_rlp_List (v7 ++ ([x_31] : List Item))).bind fun (x_34 : Item) =>
    ((g_rlp_Put x_34).bind fun (x_36 : ((List UInt8) × Int)) =>
    some (.inr (x_36.1, x_36.2)))))))
noncomputable def gs_node_Put (self : (List UInt8) → Option Bool) (n0 : Node) : Option ((List UInt8) × Int) := theC (step_node_Put self n0) .S
theorem sims_node_Put (self : (List UInt8) → Option Bool) (hself : ∀ (y0 : (List UInt8)) (rr : Bool), self y0 = some rr → Fun Try.prog 47 [.val (sV y0)] (.val (.bool rr))) (n0 : Node) (r : ((List UInt8) × Int)) (h : gs_node_Put self n0 = some r) : Fun Try.prog 34 [.agg (cNode n0)] (.tuple [.val (sV (r.1)), .val (.int .i64 (r.2))]) := by
  refine Fun.of_bodyQ Try.func34 rfl (by simp [Try.ntmps34]) ?_
  rw [Try.ntmps34, TT.res_34]
  refine QW.view (s' := ⟨tab [(0, .d (.agg (cNode n0)))], tabH [], 0, []⟩) (View.init (by rfl)) zL ?_
  replace h := theC_get h
  obtain ⟨_, h⟩ := h
  obtain ⟨k_0, rfl, h9⟩ := run_succ h; replace h := h9; clear h9; rw [step_node_Put] at h
  refine sR ?_
  refine XK.fz (some 1) rfl rfl (sf_boxF (ds := cNode n0) rfl rfl rfl rfl toDs_map ?_)
  refine xa 2 (pS ([] : List UInt8)) ?_
  refine xz 3 (pI (0)) ?_
  refine QW.seq ?_
  refine sR ?_
  refine xs 10 rfl (sf_ldC (d := .agg (cNode n0)) rfl TT.tyA_52 rfl (⟨by rw [lay_Node.len]; decide, congrArg D.agg (List.take_of_length_le (by rw [lay_Node.len]; decide))⟩) ?_)
  obtain ⟨x_1, hx_2, h⟩ := bG h
  refine xs 11 rfl (sf_call rfl rfl TT.enters_36 rfl (sims_node_Check self hself n0 _ hx_2) ?_)
  refine xz 4 (pI x_1) ?_
  refine sR ?_
  refine xm 12 (pI x_1) ?_
  refine xs 13 rfl (sf_ne (a := x_1) (b := (0 : Int)) rfl rfl rfl ?_)
  refine XK.nz ?_
  refine QW.cond (t := (!decide (x_1 = (0 : Int)))) rfl zL (fun hb_3 => ?_) (fun hb_3 => ?_)
  · replace h := bGT h hb_3
    refine sR ?_
    refine xm 14 (pI x_1) ?_
    refine xa 2 (pS ([] : List UInt8)) ?_
    refine xz 3 (pI x_1) ?_
    refine QW.ret zL (thR ?_)
    obtain rfl := sG h
    exact Ends.more (.inr rfl) rfl (ps := [pS ([] : List UInt8), pI x_1]) (And.intro (ResIs.tmp rfl) (And.intro (ResIs.tmp rfl) trivial)) rfl rfl
  · replace h := bGF h hb_3
    refine QW.skip zL (nrm ?_)
    refine sR ?_
    refine xs 16 rfl (sf_fldC rfl TT.fldA_52_1 (by decide) rfl ?_)
    refine xs 17 rfl (sf_ldC (d := .slice ((n0.fPath).map byteD)) rfl TT.tyA_49 rfl (ldc_Node_1 _) ?_)
    refine xs 18 rfl (sf_fldC rfl TT.fldA_52_0 (by decide) rfl ?_)
    refine xs 19 rfl (sf_ldC (d := .val (.int .i64 (n0.fKind))) rfl TT.tyA_3 rfl (ldc_Node_0 _) ?_)
    refine xs 20 rfl (sf_eq (a := (n0.fKind)) (b := (1 : Int)) rfl rfl rfl ?_)
    obtain ⟨x_4, hx_5, h⟩ := bG h
    refine xs 21 rfl (sf_call rfl rfl TT.enters_94 rfl (sim_nib_Pack (n0.fPath) (decide ((n0.fKind) = (1 : Int))) _ hx_5) ?_)
    refine xm 15 (.d (.tuple [.val (sV (x_4.1)), .val (.int .i64 (x_4.2))])) ?_
    refine xs 22 rfl (sf_extract rfl rfl rfl ?_)
    refine xs 23 rfl (sf_extract rfl rfl rfl ?_)
    refine xa 5 (pS (x_4.1)) ?_
    refine xz 6 (pI (x_4.2)) ?_
    refine QW.seq ?_
    refine sR ?_
    refine xs 24 rfl (sf_fldC rfl TT.fldA_52_0 (by decide) rfl ?_)
    refine xs 25 rfl (sf_ldC (d := .val (.int .i64 (n0.fKind))) rfl TT.tyA_3 rfl (ldc_Node_0 _) ?_)
    refine XK.nz ?_
    refine QW.block ?_
    refine sR ?_
    refine xs 27 rfl (sf_eq (a := (n0.fKind)) (b := (1 : Int)) rfl rfl rfl ?_)
    refine xz 26 (pB (decide ((n0.fKind) = (1 : Int)))) ?_
    refine QW.cond (t := (decide ((n0.fKind) = (1 : Int)))) rfl zL (fun hb_6 => ?_) (fun hb_6 => ?_)
    · replace h := bGT h hb_6
      refine QW.seq ?_
      refine QW.region zL (PW.regQ (id := 7) mixedX (M := _) rfl (by kernel_rfl) ?_)
      refine RQ.st (some 28) rfl rfl (sf_move (v := pS (x_4.1)) rfl rfl ⟨⟨rfl, rfl⟩, ?_⟩)
      obtain ⟨x_7, hx_8, h⟩ := bG h
      refine RQ.st (some 29) rfl rfl (sf_call rfl rfl TT.enters_97 rfl (sim_rlp_Text (x_4.1) _ hx_8) ⟨⟨rfl, rfl⟩, ?_⟩)
      refine RQ.st (some 30) rfl rfl (sf_fldC rfl TT.fldA_52_2 (by decide) rfl ⟨⟨rfl, rfl⟩, ?_⟩)
      refine RQ.st (some 31) rfl rfl (sf_ldC (d := .val (sV (n0.fValue))) rfl TT.tyA_9 rfl (ldc_Node_2 _) ⟨⟨rfl, rfl⟩, ?_⟩)
      obtain ⟨x_9, hx_10, h⟩ := bG h
      refine RQ.st (some 32) rfl rfl (sf_call rfl rfl TT.enters_97 rfl (sim_rlp_Text (n0.fValue) _ hx_10) ⟨⟨rfl, rfl⟩, ?_⟩)
      refine RQ.st (some 33) rfl rfl (sf_row (en := eItem) (l := ([x_7, x_9] : List Item)) rfl TT.rowA_123 lay_Item (by first | rfl | (simp only [List.map_cons, List.map_nil, eItem_eq]; rfl)) rfl (by decide) (by simp [solids, partsP, evP, ofVal, PV.solid, putS_at, tab, unS, unT, unC, asCond, Value.oneCell']) ⟨⟨rfl, rfl⟩, ?_⟩)
      obtain ⟨x_11, hx_12, h⟩ := bG h
      refine RQ.st (some 34) rfl rfl (sf_call rfl rfl TT.enters_96 rfl (sim_rlp_List ([x_7, x_9] : List Item) _ hx_12) ⟨⟨rfl, rfl⟩, ?_⟩)
      obtain ⟨x_13, hx_14, h⟩ := bG h
      refine RQ.st (some 35) rfl rfl (sf_call rfl rfl TT.enters_95 rfl (sim_rlp_Put x_11 _ hx_14) ⟨⟨rfl, rfl⟩, ?_⟩)
      refine RQ.st (some 36) rfl rfl (sf_extract rfl rfl rfl ⟨⟨rfl, rfl⟩, ?_⟩)
      refine RQ.st (some 37) rfl rfl (sf_extract rfl rfl rfl ⟨⟨rfl, rfl⟩, ?_⟩)
      refine RQ.st (some 2) rfl rfl (sf_assign (v := pS (x_13.1)) rfl rfl ⟨⟨rfl, rfl⟩, ?_⟩)
      refine RQ.st (some 3) rfl rfl (sf_assign (v := pI (x_13.2)) rfl rfl ⟨⟨rfl, rfl⟩, ?_⟩)
      refine RQ.nil (nrm ?_)
      refine QW.ret zL (blR (thR ?_))
      obtain rfl := sG h
      exact Ends.more (.inr rfl) rfl (ps := [pS (x_13.1), pI (x_13.2)]) (And.intro (ResIs.tmp rfl) (And.intro (ResIs.tmp rfl) trivial)) rfl rfl
    · replace h := bGF h hb_6
      refine sR ?_
      refine xs 39 rfl (sf_eq (a := (n0.fKind)) (b := (2 : Int)) rfl rfl rfl ?_)
      refine xz 38 (pB (decide ((n0.fKind) = (2 : Int)))) ?_
      refine QW.cond (t := (decide ((n0.fKind) = (2 : Int)))) rfl zL (fun hb_15 => ?_) (fun hb_15 => ?_)
      · replace h := bGT h hb_15
        refine QW.seq ?_
        refine QW.region zL (PW.regQ (id := 9) mixedX (M := _) rfl (by kernel_rfl) ?_)
        refine RQ.st (some 40) rfl rfl (sf_move (v := pS (x_4.1)) rfl rfl ⟨⟨rfl, rfl⟩, ?_⟩)
        obtain ⟨x_16, hx_17, h⟩ := bG h
        refine RQ.st (some 41) rfl rfl (sf_call rfl rfl TT.enters_97 rfl (sim_rlp_Text (x_4.1) _ hx_17) ⟨⟨rfl, rfl⟩, ?_⟩)
        refine RQ.st (some 42) rfl rfl (sf_fldC rfl TT.fldA_52_3 (by decide) rfl ⟨⟨rfl, rfl⟩, ?_⟩)
        refine RQ.st (some 43) rfl rfl (sf_idxC (i := (0 : Int)) rfl TT.slcA_50 TT.arrA_50 rfl rfl (by decide) ⟨⟨rfl, rfl⟩, ?_⟩)
        refine RQ.st (some 44) rfl rfl (sf_ldC (d := .val (sV (idx (n0.fKids).1 (0 : Int)))) rfl TT.tyA_9 rfl (ld_arr (pre_Node_3 _) (by decide)) ⟨⟨rfl, rfl⟩, ?_⟩)
        obtain ⟨x_18, hx_19, h⟩ := bG h
        refine RQ.st (some 45) rfl rfl (sf_call rfl rfl TT.enters_98 rfl (sim_node_item (idx (n0.fKids).1 (0 : Int)) _ hx_19) ⟨⟨rfl, rfl⟩, ?_⟩)
        refine RQ.st (some 46) rfl rfl (sf_row (en := eItem) (l := ([x_16, x_18] : List Item)) rfl TT.rowA_123 lay_Item (by first | rfl | (simp only [List.map_cons, List.map_nil, eItem_eq]; rfl)) rfl (by decide) (by simp [solids, partsP, evP, ofVal, PV.solid, putS_at, tab, unS, unT, unC, asCond, Value.oneCell']) ⟨⟨rfl, rfl⟩, ?_⟩)
        obtain ⟨x_20, hx_21, h⟩ := bG h
        refine RQ.st (some 47) rfl rfl (sf_call rfl rfl TT.enters_96 rfl (sim_rlp_List ([x_16, x_18] : List Item) _ hx_21) ⟨⟨rfl, rfl⟩, ?_⟩)
        obtain ⟨x_22, hx_23, h⟩ := bG h
        refine RQ.st (some 48) rfl rfl (sf_call rfl rfl TT.enters_95 rfl (sim_rlp_Put x_20 _ hx_23) ⟨⟨rfl, rfl⟩, ?_⟩)
        refine RQ.st (some 49) rfl rfl (sf_extract rfl rfl rfl ⟨⟨rfl, rfl⟩, ?_⟩)
        refine RQ.st (some 50) rfl rfl (sf_extract rfl rfl rfl ⟨⟨rfl, rfl⟩, ?_⟩)
        refine RQ.st (some 2) rfl rfl (sf_assign (v := pS (x_22.1)) rfl rfl ⟨⟨rfl, rfl⟩, ?_⟩)
        refine RQ.st (some 3) rfl rfl (sf_assign (v := pI (x_22.2)) rfl rfl ⟨⟨rfl, rfl⟩, ?_⟩)
        refine RQ.nil (nrm ?_)
        refine QW.ret zL (blR (thR ?_))
        obtain rfl := sG h
        exact Ends.more (.inr rfl) rfl (ps := [pS (x_22.1), pI (x_22.2)]) (And.intro (ResIs.tmp rfl) (And.intro (ResIs.tmp rfl) trivial)) rfl rfl
      · replace h := bGF h hb_15
        refine QW.skip zL (blN (nrm ?_))
        refine sR ?_
        refine xz 7 (.full (([] : (List Item)).map eItem)) ?_
        refine QW.seq ?_
        refine sR ?_
        refine xs 51 rfl (sf_fldC rfl TT.fldA_52_3 (by decide) rfl ?_)
        refine xs 52 rfl (sf_ldC (d := .agg ((n0.fKids).1.map eS)) rfl TT.tyA_50 rfl (ldc_Node_3 _) ?_)
        refine xm 53 (pI (0)) ?_
        refine XK.nz ?_
        refine QW.block ?_
        refine QW.loop (fun k σ => ∃ v7 : (List Item), ∃ v53 : Int, k ≤ k_0 ∧ run (step_node_Put self n0) k (.L1 v7 v53) = some r ∧ σ = ⟨tab [(7, .own 0 (v7.map eItem)), (52, .d (.agg ((n0.fKids).1.map eS))), (53, pI v53)], tabH [.spare 3 v7.length], 1, []⟩) k_0 zL ⟨⟨tab [(7, .own 0 (([] : (List Item)).map eItem)), (52, .d (.agg ((n0.fKids).1.map eS))), (53, pI (0))], tabH [.spare 3 ([] : (List Item)).length], 1, []⟩, View.trans (View.buf 7 3 rfl zL) (View.mk 1 [0] _ _ _ rfl rfl (by decide) (iC (iC (iC trivial))) (And.intro rfl trivial) rfl zL rfl), ([] : (List Item)), 0, Nat.le_refl _, jG h, rfl⟩ ?_
        rintro k_24s _ ⟨v7, v53, k_24h, h, rfl⟩
        obtain ⟨k_24, rfl, h9⟩ := run_succ h; replace h := h9; clear h9; rw [step_node_Put] at h
        refine sR ?_
        refine xs 54 rfl (sf_lss (a := v53) (b := (16 : Int)) rfl rfl rfl ?_)
        refine XK.nz ?_
        refine QW.seq ?_
        refine QW.cond (t := (decide (v53 < (16 : Int)))) rfl zL (fun hb_25 => ?_) (fun hb_25 => ?_)
        · replace h := bGT h hb_25
          refine QW.skip zL (nrm ?_)
          refine QW.seq ?_
          refine QW.block ?_
          refine sR ?_
          obtain ⟨c_26, h⟩ := gG h
          refine xs 55 rfl (sf_idxV' (a := n0.fKids) (i := v53) rfl TT.arrA_50 rfl rfl c_26 ?_)
          refine xz 9 (pS (idx (n0.fKids).1 v53)) ?_
          refine rG ?_
          refine xm 56 (.own 0 (v7.map eItem)) ?_
          refine xm 57 (pS (idx (n0.fKids).1 v53)) ?_
          obtain ⟨x_27, hx_28, h⟩ := bG h
          refine xs 58 rfl (sf_call rfl rfl TT.enters_98 rfl (sim_node_item (idx (n0.fKids).1 v53) _ hx_28) ?_)
          refine xs 59 rfl (sf_row (en := eItem) (l := ([x_27] : List Item)) rfl TT.rowA_123 lay_Item (by first | rfl | (simp only [List.map_cons, List.map_nil, eItem_eq]; rfl)) rfl (by decide) (by simp [solids, partsP, evP, ofVal, PV.solid, putS_at, tab, unS, unT, unC, asCond, Value.oneCell']) ?_)
          obtain ⟨c_29, h⟩ := gG h
          refine xs 60 rfl (sf_appO (en := eItem) (l := v7) (l2 := ([x_27] : List Item)) rfl TT.rowA_123 TT.under_123 rfl lay_Item rfl rfl rfl c_29 (by decide) ?_)
          refine xa 7 (.own 1 ((v7 ++ ([x_27] : List Item)).map eItem)) ?_
          refine XK.nil (blN (nrm ?_))
          refine rG ?_
          obtain ⟨c_30, h⟩ := gG h
          refine xs 61 rfl (sf_add (a := v53) (b := (1 : Int)) rfl rfl rfl c_30 ?_)
          refine xm 53 (pI (v53 + (1 : Int))) ?_
          refine XK.nz ?_
          exact ⟨k_24, by omega, ⟨tab [(7, .own 0 ((v7 ++ ([x_27] : List Item)).map eItem)), (52, .d (.agg ((n0.fKids).1.map eS))), (53, pI (v53 + (1 : Int)))], tabH [.spare 3 (v7 ++ ([x_27] : List Item)).length], 1, []⟩, View.mk 1 [1] _ _ _ rfl rfl (by decide) (iC (iC (iC trivial))) (And.intro rfl trivial) rfl zL rfl, (v7 ++ ([x_27] : List Item)), (v53 + (1 : Int)), by omega, jG h, rfl⟩
        · replace h := bGF h hb_25
          refine QW.exit zL (thX (thX (exE (nrm ?_))))
          refine sR ?_
          refine xm 62 (.own 0 (v7.map eItem)) ?_
          obtain ⟨x_31, hx_32, h⟩ := bG h
          refine xs 63 rfl (sf_call rfl rfl TT.enters_97 rfl (sim_rlp_Text ([] : List UInt8) _ hx_32) ?_)
          refine xs 64 rfl (sf_row (en := eItem) (l := ([x_31] : List Item)) rfl TT.rowA_123 lay_Item (by first | rfl | (simp only [List.map_cons, List.map_nil, eItem_eq]; rfl)) rfl (by decide) (by simp [solids, partsP, evP, ofVal, PV.solid, putS_at, tab, unS, unT, unC, asCond, Value.oneCell']) ?_)
          obtain ⟨c_33, h⟩ := gG h
          refine xs 65 rfl (sf_appO (en := eItem) (l := v7) (l2 := ([x_31] : List Item)) rfl TT.rowA_123 TT.under_123 rfl lay_Item rfl rfl rfl c_33 (by decide) ?_)
          obtain ⟨x_34, hx_35, h⟩ := bG h
          refine xs 66 rfl (sf_call rfl rfl TT.enters_96 rfl (sim_rlp_List (v7 ++ ([x_31] : List Item)) _ hx_35) ?_)
          obtain ⟨x_36, hx_37, h⟩ := bG h
          refine xs 67 rfl (sf_call rfl rfl TT.enters_95 rfl (sim_rlp_Put x_34 _ hx_37) ?_)
          refine xs 68 rfl (sf_extract rfl rfl rfl ?_)
          refine xs 69 rfl (sf_extract rfl rfl rfl ?_)
          refine xa 2 (pS (x_36.1)) ?_
          refine xz 3 (pI (x_36.2)) ?_
          refine QW.ret zL ?_
          obtain rfl := sG h
          exact Ends.more (.inr rfl) rfl (ps := [pS (x_36.1), pI (x_36.2)]) (And.intro (ResIs.tmp rfl) (And.intro (ResIs.tmp rfl) trivial)) rfl rfl
inductive C_node_Get where
  | S
  | L2 (v36_2 : Int) (v4_0_4 : Bool) (v4_1_4 : (List UInt8)) (v4_2_4 : (List Item)) (v7_2 : (Arr 16 (List UInt8)))
  | J1 (v6_0 : Int) (v6_1 : (List UInt8)) (v6_2 : (List UInt8)) (v6_3 : (Arr 16 (List UInt8)))
noncomputable def step_node_Get (self : (List UInt8) → Option Bool) (s0 : (List UInt8)) : C_node_Get → Option (C_node_Get ⊕ (Node × Int))
  | .S =>
    ((g_rlp_Whole s0).bind fun (x_1 : (Item × Int)) =>
    (bif (!decide ((x_1.2) = (0 : Int))) then
    some (.inr ((⟨0, ([] : (List UInt8)), ([] : List UInt8), (Arr.rep 16 ([] : (List UInt8)))⟩ : Node), x_1.2))
    else
    (bif (decide ((((x_1.1).fL).length : Int) = (2 : Int))) then
    gO (0 ≤ (0 : Int) ∧ (0 : Int) < (((x_1.1).fL).length : Int)) (
    gO (0 ≤ (1 : Int) ∧ (1 : Int) < (((x_1.1).fL).length : Int)) (
    ((g_node_pair (idx ((x_1.1).fL) (0 : Int)) (idx ((x_1.1).fL) (1 : Int))).bind fun (x_7 : Node) =>
    some (.inl (.J1 (x_7.fKind) (x_7.fPath) (x_7.fValue) (x_7.fKids))))))
    else
    (bif (decide ((((x_1.1).fL).length : Int) = (17 : Int))) then
    some (.inl (.L2 (0) ((x_1.1).fList) ((x_1.1).fS) ((x_1.1).fL) (Arr.rep 16 ([] : (List UInt8)))))
    else
    some (.inl (.J1 (0) ([] : (List UInt8)) ([] : List UInt8) (Arr.rep 16 ([] : (List UInt8)))))))))
  | .L2 v36_2 v4_0_4 v4_1_4 v4_2_4 v7_2 =>
    (bif (decide (v36_2 < (16 : Int))) then
    gO (0 ≤ v36_2 ∧ v36_2 < (v4_2_4.length : Int)) (
    ((g_node_reference (idx v4_2_4 v36_2)).bind fun (x_13 : (List UInt8)) =>
    gO (0 ≤ v36_2 ∧ v36_2 < ((16 : Nat) : Int)) (
    gO (inI (v36_2 + (1 : Int))) (
    some (.inl (.L2 (v36_2 + (1 : Int)) v4_0_4 v4_1_4 v4_2_4 (v7_2.put v36_2 x_13)))))))
    else
    ((g_node_Branch v7_2).bind fun (x_17 : Node) =>
    some (.inl (.J1 (x_17.fKind) (x_17.fPath) (x_17.fValue) (x_17.fKids)))))
  | .J1 v6_0 v6_1 v6_2 v6_3 =>
    ((gs_node_Put self (⟨v6_0, v6_1, v6_2, v6_3⟩ : Node)).bind fun (x_20 : ((List UInt8) × Int)) =>
    (bif ((!decide ((x_20.2) = (0 : Int))) || (!(x_20.1 == s0))) then
    some (.inr ((⟨0, ([] : (List UInt8)), ([] : List UInt8), (Arr.rep 16 ([] : (List UInt8)))⟩ : Node), 6))
    else
    some (.inr ((⟨v6_0, v6_1, v6_2, v6_3⟩ : Node), 0))))
noncomputable def gs_node_Get (self : (List UInt8) → Option Bool) (s0 : (List UInt8)) : Option (Node × Int) := theC (step_node_Get self s0) .S
theorem sims_node_Get (self : (List UInt8) → Option Bool) (hself : ∀ (y0 : (List UInt8)) (rr : Bool), self y0 = some rr → Fun Try.prog 47 [.val (sV y0)] (.val (.bool rr))) (s0 : (List UInt8)) (r : (Node × Int)) (h : gs_node_Get self s0 = some r) : Fun Try.prog 37 [.val (sV s0)] (.tuple [.agg (cNode (r.1)), .val (.int .i64 (r.2))]) := by
  refine Fun.of_bodyQ Try.func37 rfl (by simp [Try.ntmps37]) ?_
  rw [Try.ntmps37, TT.res_37]
  refine QW.view (s' := ⟨tab [(0, pS s0)], tabH [], 0, []⟩) (View.init (by rfl)) zL ?_
  replace h := theC_get h
  obtain ⟨_, h⟩ := h
  obtain ⟨k_0, rfl, h9⟩ := run_succ h; replace h := h9; clear h9; rw [step_node_Get] at h
  refine sR ?_
  refine xs 2 rfl (sf_alloc (l := (([pI (0), .full (([] : (List UInt8)).map byteD), pS ([] : List UInt8)]) ++ (((Arr.rep 16 ([] : (List UInt8))).1.map eS).map PV.d))) rfl TT.zeroA_52 rfl rfl ?_)
  refine xz 3 (pI (0)) ?_
  refine sR ?_
  refine xm 12 (pS s0) ?_
  obtain ⟨x_1, hx_2, h⟩ := bG h
  refine xs 13 rfl (sf_call rfl rfl TT.enters_105 rfl (sim_rlp_Whole s0 _ hx_2) ?_)
  refine xm 11 (.d (.tuple [.agg (cItem (x_1.1)), .val (.int .i64 (x_1.2))])) ?_
  refine xs 14 rfl (sf_extract rfl rfl rfl ?_)
  refine xs 15 rfl (sf_extract rfl rfl rfl ?_)
  refine xs 4 rfl (sf_alloc (l := [pB false, pS ([] : List UInt8), .full (([] : (List Item)).map eItem)]) rfl TT.zeroA_125 rfl rfl ?_)
  refine XK.st none rfl rfl (sf_stV (l' := [pB ((x_1.1).fList), pS ((x_1.1).fS), .d (.slice (((x_1.1).fL).map eItem))]) rfl TT.tyA_125 rfl rfl rfl rfl rfl rfl (by simp) rfl ?_)
  refine xz 5 (pI (x_1.2)) ?_
  refine QW.seq ?_
  refine sR ?_
  refine xm 16 (pI (x_1.2)) ?_
  refine xs 17 rfl (sf_ne (a := (x_1.2)) (b := (0 : Int)) rfl rfl rfl ?_)
  refine XK.nz ?_
  refine QW.cond (t := (!decide ((x_1.2) = (0 : Int)))) rfl zL (fun hb_3 => ?_) (fun hb_3 => ?_)
  · replace h := bGT h hb_3
    refine sR ?_
    refine xs 18 rfl (sf_bld (v := .agg (([pI (0), .full (([] : (List UInt8)).map byteD), pS ([] : List UInt8)]) ++ (((Arr.rep 16 ([] : (List UInt8))).1.map eS).map PV.d))) rfl TT.bldA_52 (build_of rfl fill_nil) ?_)
    refine xm 19 (pI (x_1.2)) ?_
    refine XK.st none rfl rfl (sf_stV (c := (([pI (0), .full (([] : (List UInt8)).map byteD), pS ([] : List UInt8)]) ++ (((Arr.rep 16 ([] : (List UInt8))).1.map eS).map PV.d))) (l' := (([pI (0), .full (([] : (List UInt8)).map byteD), pS ([] : List UInt8)]) ++ (((Arr.rep 16 ([] : (List UInt8))).1.map eS).map PV.d))) rfl TT.tyA_52 rfl rfl rfl rfl rfl (len_app (A := [pI (0), .full (([] : (List UInt8)).map byteD), pS ([] : List UInt8)]) (b := 16) rfl (len_map2 _) rfl) (le_of_len (len_app (A := [pI (0), .full (([] : (List UInt8)).map byteD), pS ([] : List UInt8)]) (b := 16) rfl (len_map2 _) rfl) bL) (spl_same ((len_app (A := [pI (0), .full (([] : (List UInt8)).map byteD), pS ([] : List UInt8)]) (b := 16) rfl (len_map2 _) rfl).trans (len_app (A := [pI (0), .full (([] : (List UInt8)).map byteD), pS ([] : List UInt8)]) (b := 16) rfl (len_map2 _) rfl).symm)) ?_)
    refine xz 3 (pI (x_1.2)) ?_
    refine QW.ret zL (thR ?_)
    obtain rfl := sG h
    exact Ends.more (.inr rfl) rfl (ps := [.agg (([pI (0), .full (([] : (List UInt8)).map byteD), pS ([] : List UInt8)]) ++ (((Arr.rep 16 ([] : (List UInt8))).1.map eS).map PV.d)), pI (x_1.2)]) (And.intro (ResIs.cell rfl rfl TT.tyA_52 (ldv_whole (len_app (A := [pI (0), .full (([] : (List UInt8)).map byteD), pS ([] : List UInt8)]) (b := 16) rfl (len_map2 _) rfl) (Nat.succ_pos _))) (And.intro (ResIs.tmp rfl) trivial)) (by simp only [PV.toD, PV.toDs, toDs_appS, toDs_map, Option.bind_some, Option.map_some, cNode] <;> rfl) rfl
  · replace h := bGF h hb_3
    refine QW.skip zL (nrm ?_)
    refine sR ?_
    refine xs 6 rfl (sf_alloc (l := (([pI (0), .full (([] : (List UInt8)).map byteD), pS ([] : List UInt8)]) ++ (((Arr.rep 16 ([] : (List UInt8))).1.map eS).map PV.d))) rfl TT.zeroA_52 rfl rfl ?_)
    refine XK.nz ?_
    refine QW.seqI (fun s' => ∃ v6_0 : Int, ∃ v6_1 : (List UInt8), ∃ v6_2 : (List UInt8), ∃ v6_3 : (Arr 16 (List UInt8)), ∃ k : Nat, k ≤ k_0 ∧ run (step_node_Get self s0) k (.J1 v6_0 v6_1 v6_2 v6_3) = some r ∧ s' = ⟨tab [(0, pS s0), (2, .vptr 0 0), (6, .vptr 1 0)], tabH [.var (([pI (0), .full (([] : (List UInt8)).map byteD), pS ([] : List UInt8)]) ++ (((Arr.rep 16 ([] : (List UInt8))).1.map eS).map PV.d)), .var (([pI v6_0, .d (.slice (v6_1.map byteD)), pS v6_2]) ++ ((v6_3.1.map eS).map PV.d))], 2, []⟩) ?_ ?_
    · refine sR ?_
      refine xs 20 rfl (sf_fldV rfl TT.fldA_125_2 (by decide) rfl ?_)
      refine xs 21 rfl (sf_ldV (v := .d (.slice (((x_1.1).fL).map eItem))) rfl TT.tyA_123 rfl rfl ⟨⟨by simp, by simp⟩, rfl⟩ ?_)
      refine xs 22 rfl (sf_lenL (en := eItem) (l := (x_1.1).fL) rfl TT.under_123 rfl ?_)
      refine XK.nz ?_
      refine QW.block ?_
      refine sR ?_
      refine xs 24 rfl (sf_eq (a := (((x_1.1).fL).length : Int)) (b := (2 : Int)) rfl rfl rfl ?_)
      refine xz 23 (pB (decide ((((x_1.1).fL).length : Int) = (2 : Int)))) ?_
      refine QW.cond (t := (decide ((((x_1.1).fL).length : Int) = (2 : Int)))) rfl zL (fun hb_4 => ?_) (fun hb_4 => ?_)
      · replace h := bGT h hb_4
        refine QW.region zL (PW.regK (id := 7) mixedX (M := _) rfl (by kernel_rfl) ?_)
        refine RK.st (some 25) rfl rfl (sf_fldV rfl TT.fldA_125_2 (by decide) rfl ?_)
        refine RK.st (some 26) rfl rfl (sf_ldV (v := .d (.slice (((x_1.1).fL).map eItem))) rfl TT.tyA_123 rfl rfl ⟨⟨by simp, by simp⟩, rfl⟩ ?_)
        obtain ⟨c_5, h⟩ := gG h
        refine RK.st (some 27) rfl rfl (sf_idxA (l := (x_1.1).fL) (i := (0 : Int)) rfl TT.slcA_123 lay_Item rfl rfl c_5 ?_)
        refine RK.st (some 28) rfl rfl (sf_ldC (d := .agg (cItem (idx ((x_1.1).fL) (0 : Int)))) rfl TT.tyA_125 rfl (⟨by simp [cItem], rfl⟩) ?_)
        refine RK.st (some 29) rfl rfl (sf_fldV rfl TT.fldA_125_2 (by decide) rfl ?_)
        refine RK.st (some 30) rfl rfl (sf_ldV (v := .d (.slice (((x_1.1).fL).map eItem))) rfl TT.tyA_123 rfl rfl ⟨⟨by simp, by simp⟩, rfl⟩ ?_)
        obtain ⟨c_6, h⟩ := gG h
        refine RK.st (some 31) rfl rfl (sf_idxA (l := (x_1.1).fL) (i := (1 : Int)) rfl TT.slcA_123 lay_Item rfl rfl c_6 ?_)
        refine RK.st (some 32) rfl rfl (sf_ldC (d := .agg (cItem (idx ((x_1.1).fL) (1 : Int)))) rfl TT.tyA_125 rfl (⟨by simp [cItem], rfl⟩) ?_)
        obtain ⟨x_7, hx_8, h⟩ := bG h
        refine RK.st (some 33) rfl rfl (sf_call rfl rfl TT.enters_106 rfl (sim_node_pair (idx ((x_1.1).fL) (0 : Int)) (idx ((x_1.1).fL) (1 : Int)) _ hx_8) ?_)
        refine RK.st none rfl rfl (sf_stV (c := (([pI (x_7.fKind), .d (.slice ((x_7.fPath).map byteD)), pS (x_7.fValue)]) ++ (((x_7.fKids).1.map eS).map PV.d))) (l' := (([pI (x_7.fKind), .d (.slice ((x_7.fPath).map byteD)), pS (x_7.fValue)]) ++ (((x_7.fKids).1.map eS).map PV.d))) rfl TT.tyA_52 rfl rfl rfl rfl (show (cNode x_7).map PV.d = _ by simp only [cNode, List.map_append]; rfl) (len_app (A := [pI (x_7.fKind), .d (.slice ((x_7.fPath).map byteD)), pS (x_7.fValue)]) (b := 16) rfl (len_map2 _) rfl) (le_of_len (len_app (A := [pI (0), .full (([] : (List UInt8)).map byteD), pS ([] : List UInt8)]) (b := 16) rfl (len_map2 _) rfl) bL) (spl_same ((len_app (A := [pI (0), .full (([] : (List UInt8)).map byteD), pS ([] : List UInt8)]) (b := 16) rfl (len_map2 _) rfl).trans (len_app (A := [pI (x_7.fKind), .d (.slice ((x_7.fPath).map byteD)), pS (x_7.fValue)]) (b := 16) rfl (len_map2 _) rfl).symm)) ?_)
        refine RK.nil ⟨RecsOK.comp (by rfl), (blN (nrm ?_))⟩
        exact ⟨⟨tab [(0, pS s0), (2, .vptr 0 0), (6, .vptr 1 0)], tabH [.var (([pI (0), .full (([] : (List UInt8)).map byteD), pS ([] : List UInt8)]) ++ (((Arr.rep 16 ([] : (List UInt8))).1.map eS).map PV.d)), .var (([pI (x_7.fKind), .d (.slice ((x_7.fPath).map byteD)), pS (x_7.fValue)]) ++ (((x_7.fKids).1.map eS).map PV.d))], 2, []⟩, View.mk 2 [0, 2] _ _ _ rfl rfl (by decide) (iC (iC (iC trivial))) (And.intro (by simp only [atH1, res_app, PV.res_d]; rfl) (And.intro (by simp only [atH1, res_app, PV.res_d]; rfl) trivial)) rfl zL rfl, x_7.fKind, x_7.fPath, x_7.fValue, x_7.fKids, k_0, by omega, jG h, rfl⟩
      · replace h := bGF h hb_4
        refine sR ?_
        refine xs 35 rfl (sf_eq (a := (((x_1.1).fL).length : Int)) (b := (17 : Int)) rfl rfl rfl ?_)
        refine xz 34 (pB (decide ((((x_1.1).fL).length : Int) = (17 : Int)))) ?_
        refine QW.cond (t := (decide ((((x_1.1).fL).length : Int) = (17 : Int)))) rfl zL (fun hb_9 => ?_) (fun hb_9 => ?_)
        · replace h := bGT h hb_9
          refine sR ?_
          refine xs 7 rfl (sf_alloc (l := (((Arr.rep 16 ([] : (List UInt8))).1.map eS).map .d)) rfl TT.zeroA_50 rfl rfl ?_)
          refine XK.nz ?_
          refine QW.seq ?_
          refine sR ?_
          refine xm 36 (pI (0)) ?_
          refine XK.nz ?_
          refine QW.block ?_
          refine QW.loop (fun k σ => ∃ v36_2 : Int, ∃ v4_0_4 : Bool, ∃ v4_1_4 : (List UInt8), ∃ v4_2_4 : (List Item), ∃ v7_2 : (Arr 16 (List UInt8)), k ≤ k_0 ∧ run (step_node_Get self s0) k (.L2 v36_2 v4_0_4 v4_1_4 v4_2_4 v7_2) = some r ∧ σ = ⟨tab [(0, pS s0), (2, .vptr 0 0), (4, .vptr 1 0), (6, .vptr 2 0), (7, .vptr 3 0), (36, pI v36_2)], tabH [.var (([pI (0), .full (([] : (List UInt8)).map byteD), pS ([] : List UInt8)]) ++ (((Arr.rep 16 ([] : (List UInt8))).1.map eS).map PV.d)), .var [pB v4_0_4, pS v4_1_4, .d (.slice (v4_2_4.map eItem))], .var (([pI (0), .full (([] : (List UInt8)).map byteD), pS ([] : List UInt8)]) ++ (((Arr.rep 16 ([] : (List UInt8))).1.map eS).map PV.d)), .var ((v7_2.1.map eS).map .d)], 4, []⟩) k_0 zL ⟨⟨tab [(0, pS s0), (2, .vptr 0 0), (4, .vptr 1 0), (6, .vptr 2 0), (7, .vptr 3 0), (36, pI (0))], tabH [.var (([pI (0), .full (([] : (List UInt8)).map byteD), pS ([] : List UInt8)]) ++ (((Arr.rep 16 ([] : (List UInt8))).1.map eS).map PV.d)), .var [pB ((x_1.1).fList), pS ((x_1.1).fS), .d (.slice (((x_1.1).fL).map eItem))], .var (([pI (0), .full (([] : (List UInt8)).map byteD), pS ([] : List UInt8)]) ++ (((Arr.rep 16 ([] : (List UInt8))).1.map eS).map PV.d)), .var (((Arr.rep 16 ([] : (List UInt8))).1.map eS).map .d)], 4, []⟩, View.mk 4 [0, 1, 2, 3] _ _ _ rfl rfl (by decide) (iC (iC (iC (iC (iC (iC trivial)))))) (And.intro (by simp only [atH1, res_app, PV.res_d]; rfl) (And.intro rfl (And.intro (by simp only [atH1, res_app, PV.res_d]; rfl) (And.intro (by simp only [atH1, rowC, PV.res_d]; rfl) trivial)))) rfl zL rfl, 0, (x_1.1).fList, (x_1.1).fS, (x_1.1).fL, (Arr.rep 16 ([] : (List UInt8))), Nat.le_refl _, jG h, rfl⟩ ?_
          rintro k_10s _ ⟨v36_2, v4_0_4, v4_1_4, v4_2_4, v7_2, k_10h, h, rfl⟩
          obtain ⟨k_10, rfl, h9⟩ := run_succ h; replace h := h9; clear h9; rw [step_node_Get] at h
          refine sR ?_
          refine xs 37 rfl (sf_lss (a := v36_2) (b := (16 : Int)) rfl rfl rfl ?_)
          refine XK.nz ?_
          refine QW.seq ?_
          refine QW.cond (t := (decide (v36_2 < (16 : Int)))) rfl zL (fun hb_11 => ?_) (fun hb_11 => ?_)
          · replace h := bGT h hb_11
            refine QW.skip zL (nrm ?_)
            refine QW.seq ?_
            refine QW.block ?_
            refine sR ?_
            refine xm 38 (pI v36_2) ?_
            refine xz 8 (pI v36_2) ?_
            refine rG ?_
            refine xm 39 (pI v36_2) ?_
            refine xs 40 rfl (sf_fldV rfl TT.fldA_125_2 (by decide) rfl ?_)
            refine xs 41 rfl (sf_ldV (v := .d (.slice (v4_2_4.map eItem))) rfl TT.tyA_123 rfl rfl ⟨⟨by simp, by simp⟩, rfl⟩ ?_)
            refine xm 42 (pI v36_2) ?_
            obtain ⟨c_12, h⟩ := gG h
            refine xs 43 rfl (sf_idxA (l := v4_2_4) (i := v36_2) rfl TT.slcA_123 lay_Item rfl rfl c_12 ?_)
            refine xs 44 rfl (sf_ldC (d := .agg (cItem (idx v4_2_4 v36_2))) rfl TT.tyA_125 rfl (⟨by simp [cItem], rfl⟩) ?_)
            obtain ⟨x_13, hx_14, h⟩ := bG h
            refine xs 45 rfl (sf_call rfl rfl TT.enters_107 rfl (sim_node_reference (idx v4_2_4 v36_2) _ hx_14) ?_)
            obtain ⟨c_15, h⟩ := gG h
            refine xs 46 rfl (sf_idxV (i := v36_2) rfl TT.slcA_50 TT.arrA_50 rfl rfl c_15 ?_)
            refine XK.st none rfl rfl (sf_stV (l' := (((v7_2.put v36_2 x_13).1.map eS).map .d)) rfl TT.tyA_9 rfl rfl rfl rfl rfl rfl (len_arr c_15) (spl_arr c_15) ?_)
            refine XK.nil (blN (nrm ?_))
            refine rG ?_
            obtain ⟨c_16, h⟩ := gG h
            refine xs 47 rfl (sf_add (a := v36_2) (b := (1 : Int)) rfl rfl rfl c_16 ?_)
            refine xm 36 (pI (v36_2 + (1 : Int))) ?_
            refine XK.nz ?_
            exact ⟨k_10, by omega, ⟨tab [(0, pS s0), (2, .vptr 0 0), (4, .vptr 1 0), (6, .vptr 2 0), (7, .vptr 3 0), (36, pI (v36_2 + (1 : Int)))], tabH [.var (([pI (0), .full (([] : (List UInt8)).map byteD), pS ([] : List UInt8)]) ++ (((Arr.rep 16 ([] : (List UInt8))).1.map eS).map PV.d)), .var [pB v4_0_4, pS v4_1_4, .d (.slice (v4_2_4.map eItem))], .var (([pI (0), .full (([] : (List UInt8)).map byteD), pS ([] : List UInt8)]) ++ (((Arr.rep 16 ([] : (List UInt8))).1.map eS).map PV.d)), .var (((v7_2.put v36_2 x_13).1.map eS).map .d)], 4, []⟩, View.mk 4 [0, 1, 2, 3] _ _ _ rfl rfl (by decide) (iC (iC (iC (iC (iC (iC trivial)))))) (And.intro (by simp only [atH1, res_app, PV.res_d]; rfl) (And.intro rfl (And.intro (by simp only [atH1, res_app, PV.res_d]; rfl) (And.intro (by simp only [atH1, rowC, PV.res_d]; rfl) trivial)))) rfl zL rfl, (v36_2 + (1 : Int)), v4_0_4, v4_1_4, v4_2_4, (v7_2.put v36_2 x_13), by omega, jG h, rfl⟩
          · replace h := bGF h hb_11
            refine QW.exit zL (thX (thX (exE (nrm ?_))))
            refine rG ?_
            refine XK.as (some 48) rfl rfl (sf_ldV (v := .agg ((v7_2.1.map eS).map .d)) rfl TT.tyA_50 rfl rfl (ldv_all (by decide)) ⟨.d (.agg (v7_2.1.map eS)), imp_arr, ?_⟩)
            obtain ⟨x_17, hx_18, h⟩ := bG h
            refine xs 49 rfl (sf_call rfl rfl TT.enters_43 rfl (sim_node_Branch v7_2 _ hx_18) ?_)
            refine XK.st none rfl rfl (sf_stV (c := (([pI (x_17.fKind), .d (.slice ((x_17.fPath).map byteD)), pS (x_17.fValue)]) ++ (((x_17.fKids).1.map eS).map PV.d))) (l' := (([pI (x_17.fKind), .d (.slice ((x_17.fPath).map byteD)), pS (x_17.fValue)]) ++ (((x_17.fKids).1.map eS).map PV.d))) rfl TT.tyA_52 rfl rfl rfl rfl (show (cNode x_17).map PV.d = _ by simp only [cNode, List.map_append]; rfl) (len_app (A := [pI (x_17.fKind), .d (.slice ((x_17.fPath).map byteD)), pS (x_17.fValue)]) (b := 16) rfl (len_map2 _) rfl) (le_of_len (len_app (A := [pI (0), .full (([] : (List UInt8)).map byteD), pS ([] : List UInt8)]) (b := 16) rfl (len_map2 _) rfl) bL) (spl_same ((len_app (A := [pI (0), .full (([] : (List UInt8)).map byteD), pS ([] : List UInt8)]) (b := 16) rfl (len_map2 _) rfl).trans (len_app (A := [pI (x_17.fKind), .d (.slice ((x_17.fPath).map byteD)), pS (x_17.fValue)]) (b := 16) rfl (len_map2 _) rfl).symm)) ?_)
            refine XK.nil (blN (nrm ?_))
            exact ⟨⟨tab [(0, pS s0), (2, .vptr 0 0), (6, .vptr 1 0)], tabH [.var (([pI (0), .full (([] : (List UInt8)).map byteD), pS ([] : List UInt8)]) ++ (((Arr.rep 16 ([] : (List UInt8))).1.map eS).map PV.d)), .var (([pI (x_17.fKind), .d (.slice ((x_17.fPath).map byteD)), pS (x_17.fValue)]) ++ (((x_17.fKids).1.map eS).map PV.d))], 2, []⟩, View.mk 2 [0, 2] _ _ _ rfl rfl (by decide) (iC (iC (iC trivial))) (And.intro (by simp only [atH1, res_app, PV.res_d]; rfl) (And.intro (by simp only [atH1, res_app, PV.res_d]; rfl) trivial)) rfl zL rfl, x_17.fKind, x_17.fPath, x_17.fValue, x_17.fKids, k_10, by omega, jG h, rfl⟩
        · replace h := bGF h hb_9
          refine QW.skip zL (blN (nrm ?_))
          exact ⟨⟨tab [(0, pS s0), (2, .vptr 0 0), (6, .vptr 1 0)], tabH [.var (([pI (0), .full (([] : (List UInt8)).map byteD), pS ([] : List UInt8)]) ++ (((Arr.rep 16 ([] : (List UInt8))).1.map eS).map PV.d)), .var (([pI (0), .d (.slice (([] : (List UInt8)).map byteD)), pS ([] : List UInt8)]) ++ (((Arr.rep 16 ([] : (List UInt8))).1.map eS).map PV.d))], 2, []⟩, View.trans (View.castW 2 1 rfl (get_left rfl) rfl (set_left bL rfl) zL) (View.mk 2 [0, 2] _ _ _ rfl rfl (by decide) (iC (iC (iC trivial))) (And.intro (by simp only [atH1, res_app, PV.res_d]; rfl) (And.intro (by simp only [atH1, res_app, PV.res_d]; rfl) trivial)) rfl zL rfl), 0, ([] : (List UInt8)), ([] : List UInt8), (Arr.rep 16 ([] : (List UInt8))), k_0, by omega, jG h, rfl⟩
    · rintro _ ⟨v6_0, v6_1, v6_2, v6_3, k_19s, k_19h, h, rfl⟩
      obtain ⟨k_19, rfl, h9⟩ := run_succ h; replace h := h9; clear h9; rw [step_node_Get] at h
      refine QW.seq ?_
      refine sR ?_
      refine XK.as (some 51) rfl rfl (sf_ldV (v := .agg (([pI v6_0, .d (.slice (v6_1.map byteD)), pS v6_2]) ++ ((v6_3.1.map eS).map PV.d))) rfl TT.tyA_52 rfl rfl (ldv_whole (len_app (A := [pI v6_0, .d (.slice (v6_1.map byteD)), pS v6_2]) (b := 16) rfl (len_map2 _) rfl) (Nat.succ_pos _)) ⟨.d (.agg (cNode (⟨v6_0, v6_1, v6_2, v6_3⟩ : Node))), (Imp.toD (toD_agg (toDs_app rfl toDs_map))), ?_⟩)
      obtain ⟨x_20, hx_21, h⟩ := bG h
      refine xs 52 rfl (sf_call rfl rfl TT.enters_34 rfl (sims_node_Put self hself (⟨v6_0, v6_1, v6_2, v6_3⟩ : Node) _ hx_21) ?_)
      refine xm 50 (.d (.tuple [.val (sV (x_20.1)), .val (.int .i64 (x_20.2))])) ?_
      refine xs 53 rfl (sf_extract rfl rfl rfl ?_)
      refine xs 54 rfl (sf_extract rfl rfl rfl ?_)
      refine xa 9 (pS (x_20.1)) ?_
      refine xz 10 (pI (x_20.2)) ?_
      refine sR ?_
      refine xm 55 (pI (x_20.2)) ?_
      refine xs 56 rfl (sf_ne (a := (x_20.2)) (b := (0 : Int)) rfl rfl rfl ?_)
      refine xm 57 (pB (!decide ((x_20.2) = (0 : Int)))) ?_
      refine xg 58 (pS (x_20.1)) rfl rfl (fun hg => sf_move (v := pS (x_20.1)) rfl rfl g3) ?_
      refine xg 59 (pS s0) rfl rfl (fun hg => sf_move (v := pS s0) rfl rfl g3) ?_
      refine xg 60 (pB (!(x_20.1 == s0))) rfl rfl (fun hg => sf_sne (a := x_20.1) (b := s0) rfl rfl rfl g3) ?_
      refine xs 61 rfl (sf_pickO rfl rfl rfl rfl (fun _ => rfl) (fun hb => by rw [hb]; rfl) ?_)
      refine XK.nz ?_
      refine QW.cond (t := ((!decide ((x_20.2) = (0 : Int))) || (!(x_20.1 == s0)))) rfl zL (fun hb_22 => ?_) (fun hb_22 => ?_)
      · replace h := bGT h hb_22
        refine sR ?_
        refine xs 62 rfl (sf_bld (v := .agg (([pI (0), .full (([] : (List UInt8)).map byteD), pS ([] : List UInt8)]) ++ (((Arr.rep 16 ([] : (List UInt8))).1.map eS).map PV.d))) rfl TT.bldA_52 (build_of rfl fill_nil) ?_)
        refine XK.st none rfl rfl (sf_stV (c := (([pI (0), .full (([] : (List UInt8)).map byteD), pS ([] : List UInt8)]) ++ (((Arr.rep 16 ([] : (List UInt8))).1.map eS).map PV.d))) (l' := (([pI (0), .full (([] : (List UInt8)).map byteD), pS ([] : List UInt8)]) ++ (((Arr.rep 16 ([] : (List UInt8))).1.map eS).map PV.d))) rfl TT.tyA_52 rfl rfl rfl rfl rfl (len_app (A := [pI (0), .full (([] : (List UInt8)).map byteD), pS ([] : List UInt8)]) (b := 16) rfl (len_map2 _) rfl) (le_of_len (len_app (A := [pI (0), .full (([] : (List UInt8)).map byteD), pS ([] : List UInt8)]) (b := 16) rfl (len_map2 _) rfl) bL) (spl_same ((len_app (A := [pI (0), .full (([] : (List UInt8)).map byteD), pS ([] : List UInt8)]) (b := 16) rfl (len_map2 _) rfl).trans (len_app (A := [pI (0), .full (([] : (List UInt8)).map byteD), pS ([] : List UInt8)]) (b := 16) rfl (len_map2 _) rfl).symm)) ?_)
        refine xz 3 (pI (6)) ?_
        refine QW.ret zL (thR ?_)
        obtain rfl := sG h
        exact Ends.more (.inr rfl) rfl (ps := [.agg (([pI (0), .full (([] : (List UInt8)).map byteD), pS ([] : List UInt8)]) ++ (((Arr.rep 16 ([] : (List UInt8))).1.map eS).map PV.d)), pI (6)]) (And.intro (ResIs.cell rfl rfl TT.tyA_52 (ldv_whole (len_app (A := [pI (0), .full (([] : (List UInt8)).map byteD), pS ([] : List UInt8)]) (b := 16) rfl (len_map2 _) rfl) (Nat.succ_pos _))) (And.intro (ResIs.tmp rfl) trivial)) (by simp only [PV.toD, PV.toDs, toDs_appS, toDs_map, Option.bind_some, Option.map_some, cNode] <;> rfl) rfl
      · replace h := bGF h hb_22
        refine QW.skip zL (nrm ?_)
        refine sR ?_
        refine XK.as (some 63) rfl rfl (sf_ldV (v := .agg (([pI v6_0, .d (.slice (v6_1.map byteD)), pS v6_2]) ++ ((v6_3.1.map eS).map PV.d))) rfl TT.tyA_52 rfl rfl (ldv_whole (len_app (A := [pI v6_0, .d (.slice (v6_1.map byteD)), pS v6_2]) (b := 16) rfl (len_map2 _) rfl) (Nat.succ_pos _)) ⟨.d (.agg (cNode (⟨v6_0, v6_1, v6_2, v6_3⟩ : Node))), (Imp.toD (toD_agg (toDs_app rfl toDs_map))), ?_⟩)
        refine XK.st none rfl rfl (sf_stV (c := (([pI v6_0, .d (.slice (v6_1.map byteD)), pS v6_2]) ++ ((v6_3.1.map eS).map PV.d))) (l' := (([pI v6_0, .d (.slice (v6_1.map byteD)), pS v6_2]) ++ ((v6_3.1.map eS).map PV.d))) rfl TT.tyA_52 rfl rfl rfl rfl (show (cNode (⟨v6_0, v6_1, v6_2, v6_3⟩ : Node)).map PV.d = _ by simp only [cNode, List.map_append]; rfl) (len_app (A := [pI v6_0, .d (.slice (v6_1.map byteD)), pS v6_2]) (b := 16) rfl (len_map2 _) rfl) (le_of_len (len_app (A := [pI (0), .full (([] : (List UInt8)).map byteD), pS ([] : List UInt8)]) (b := 16) rfl (len_map2 _) rfl) bL) (spl_same ((len_app (A := [pI (0), .full (([] : (List UInt8)).map byteD), pS ([] : List UInt8)]) (b := 16) rfl (len_map2 _) rfl).trans (len_app (A := [pI v6_0, .d (.slice (v6_1.map byteD)), pS v6_2]) (b := 16) rfl (len_map2 _) rfl).symm)) ?_)
        refine xz 3 (pI (0)) ?_
        refine QW.ret zL ?_
        obtain rfl := sG h
        exact Ends.more (.inr rfl) rfl (ps := [.agg (([pI v6_0, .d (.slice (v6_1.map byteD)), pS v6_2]) ++ ((v6_3.1.map eS).map PV.d)), pI (0)]) (And.intro (ResIs.cell rfl rfl TT.tyA_52 (ldv_whole (len_app (A := [pI v6_0, .d (.slice (v6_1.map byteD)), pS v6_2]) (b := 16) rfl (len_map2 _) rfl) (Nat.succ_pos _))) (And.intro (ResIs.tmp rfl) trivial)) (by simp only [PV.toD, PV.toDs, toDs_appS, toDs_map, Option.bind_some, Option.map_some, cNode] <;> rfl) rfl
noncomputable def gs_node_Reference (self : (List UInt8) → Option Bool) (s0 : (List UInt8)) : Option Bool :=
    (bif ((s0 == ([] : List UInt8)) || (decide ((s0.length : Int) = (32 : Int)))) then
    some true
    else
    ((gs_node_Get self s0).bind fun (x_2 : (Node × Int)) =>
    some ((decide ((s0.length : Int) < (32 : Int))) && (decide ((x_2.2) = (0 : Int))))))
theorem sims_node_Reference (self : (List UInt8) → Option Bool) (hself : ∀ (y0 : (List UInt8)) (rr : Bool), self y0 = some rr → Fun Try.prog 47 [.val (sV y0)] (.val (.bool rr))) (s0 : (List UInt8)) (r : Bool) (h : gs_node_Reference self s0 = some r) : Fun Try.prog 47 [.val (sV s0)] (.val (.bool r)) := by
  refine Fun.of_bodyQ Try.func47 rfl (by simp [Try.ntmps47]) ?_
  rw [Try.ntmps47, TT.res_47]
  refine QW.view (s' := ⟨tab [(0, pS s0)], tabH [], 0, []⟩) (View.init (by rfl)) zL ?_
  unfold gs_node_Reference at h
  refine sR ?_
  refine xz 2 (pB false) ?_
  refine QW.seq ?_
  refine sR ?_
  refine xm 5 (pS s0) ?_
  refine xs 6 rfl (sf_seq (a := s0) (b := ([] : List UInt8)) rfl rfl rfl ?_)
  refine xm 7 (pB (s0 == ([] : List UInt8))) ?_
  refine xg 8 (pS s0) rfl rfl (fun hg => sf_move (v := pS s0) rfl rfl g3) ?_
  refine xg 9 (pI (s0.length : Int)) rfl rfl (fun hg => sf_lenS (l := s0) rfl TT.under_9 rfl g3) ?_
  refine xg 10 (pB (decide ((s0.length : Int) = (32 : Int)))) rfl rfl (fun hg => sf_eq (a := (s0.length : Int)) (b := (32 : Int)) rfl rfl rfl g3) ?_
  refine xs 11 rfl (sf_pickO rfl rfl rfl rfl (fun _ => rfl) (fun hb => by rw [hb]; rfl) ?_)
  refine XK.nz ?_
  refine QW.cond (t := ((s0 == ([] : List UInt8)) || (decide ((s0.length : Int) = (32 : Int))))) rfl zL (fun hb_1 => ?_) (fun hb_1 => ?_)
  · replace h := bT h hb_1
    refine sR ?_
    refine xz 2 (pB true) ?_
    refine QW.ret zL (thR ?_)
    obtain rfl := sO h
    exact Ends.one (.inr rfl) rfl (ResIs.tmp rfl) rfl rfl
  · replace h := bF h hb_1
    refine QW.skip zL (nrm ?_)
    refine sR ?_
    refine xm 13 (pS s0) ?_
    obtain ⟨x_2, hx_3, h⟩ := bO h
    refine xs 14 rfl (sf_call rfl rfl TT.enters_37 rfl (sims_node_Get self hself s0 _ hx_3) ?_)
    refine xm 12 (.d (.tuple [.agg (cNode (x_2.1)), .val (.int .i64 (x_2.2))])) ?_
    refine xs 15 rfl (sf_extract rfl rfl rfl ?_)
    refine xs 16 rfl (sf_extract rfl rfl rfl ?_)
    refine xs 3 rfl (sf_alloc (l := (([pI (0), .full (([] : (List UInt8)).map byteD), pS ([] : List UInt8)]) ++ (((Arr.rep 16 ([] : (List UInt8))).1.map eS).map PV.d))) rfl TT.zeroA_52 rfl rfl ?_)
    refine XK.st none rfl rfl (sf_stV (c := (([pI ((x_2.1).fKind), .d (.slice (((x_2.1).fPath).map byteD)), pS ((x_2.1).fValue)]) ++ ((((x_2.1).fKids).1.map eS).map PV.d))) (l' := (([pI ((x_2.1).fKind), .d (.slice (((x_2.1).fPath).map byteD)), pS ((x_2.1).fValue)]) ++ ((((x_2.1).fKids).1.map eS).map PV.d))) rfl TT.tyA_52 rfl rfl rfl rfl (show (cNode (x_2.1)).map PV.d = _ by simp only [cNode, List.map_append]; rfl) (len_app (A := [pI ((x_2.1).fKind), .d (.slice (((x_2.1).fPath).map byteD)), pS ((x_2.1).fValue)]) (b := 16) rfl (len_map2 _) rfl) (le_of_len (len_app (A := [pI (0), .full (([] : (List UInt8)).map byteD), pS ([] : List UInt8)]) (b := 16) rfl (len_map2 _) rfl) bL) (spl_same ((len_app (A := [pI (0), .full (([] : (List UInt8)).map byteD), pS ([] : List UInt8)]) (b := 16) rfl (len_map2 _) rfl).trans (len_app (A := [pI ((x_2.1).fKind), .d (.slice (((x_2.1).fPath).map byteD)), pS ((x_2.1).fValue)]) (b := 16) rfl (len_map2 _) rfl).symm)) ?_)
    refine xz 4 (pI (x_2.2)) ?_
    refine sR ?_
    refine xm 17 (pS s0) ?_
    refine xs 18 rfl (sf_lenS (l := s0) rfl TT.under_9 rfl ?_)
    refine xs 19 rfl (sf_lss (a := (s0.length : Int)) (b := (32 : Int)) rfl rfl rfl ?_)
    refine xm 20 (pB (decide ((s0.length : Int) < (32 : Int)))) ?_
    refine xg 21 (pI (x_2.2)) rfl rfl (fun hg => sf_move (v := pI (x_2.2)) rfl rfl g3) ?_
    refine xg 22 (pB (decide ((x_2.2) = (0 : Int)))) rfl rfl (fun hg => sf_eq (a := (x_2.2)) (b := (0 : Int)) rfl rfl rfl g3) ?_
    refine xs 23 rfl (sf_pickA rfl rfl rfl rfl (fun hb => by rw [hb]; rfl) (fun _ => rfl) ?_)
    refine xz 2 (pB ((decide ((s0.length : Int) < (32 : Int))) && (decide ((x_2.2) = (0 : Int))))) ?_
    refine QW.ret zL ?_
    obtain rfl := sO h
    exact Ends.one (.inr rfl) rfl (ResIs.tmp rfl) rfl rfl
noncomputable def rec_node_Reference : Nat → (List UInt8) → Option Bool
  | 0 => fun _ => none
  | n + 1 => fun y0 => gs_node_Reference (rec_node_Reference n) y0
theorem simr_node_Reference : ∀ (n : Nat) (y0 : (List UInt8)) (rr : Bool), rec_node_Reference n y0 = some rr → Fun Try.prog 47 [.val (sV y0)] (.val (.bool rr))
  | 0, _, _, h => by cases h
  | n + 1, y0, rr, h => sims_node_Reference (rec_node_Reference n) (simr_node_Reference n) y0 rr h
noncomputable def g_node_Reference (y0 : (List UInt8)) : Option Bool := theR (fun n => rec_node_Reference n y0)
theorem sim_node_Reference (y0 : (List UInt8)) (rr : Bool) (h : g_node_Reference y0 = some rr) : Fun Try.prog 47 [.val (sV y0)] (.val (.bool rr)) := by
  obtain ⟨n, hn⟩ := theR_get h
  exact simr_node_Reference n y0 rr hn
noncomputable def g_node_Put (n0 : Node) : Option ((List UInt8) × Int) := gs_node_Put g_node_Reference n0
theorem sim_node_Put (n0 : Node) (r : ((List UInt8) × Int)) (h : g_node_Put n0 = some r) : Fun Try.prog 34 [.agg (cNode n0)] (.tuple [.val (sV (r.1)), .val (.int .i64 (r.2))]) := sims_node_Put g_node_Reference sim_node_Reference n0 r h
noncomputable def g_node_Get (s0 : (List UInt8)) : Option (Node × Int) := gs_node_Get g_node_Reference s0
theorem sim_node_Get (s0 : (List UInt8)) (r : (Node × Int)) (h : g_node_Get s0 = some r) : Fun Try.prog 37 [.val (sV s0)] (.tuple [.agg (cNode (r.1)), .val (.int .i64 (r.2))]) := sims_node_Get g_node_Reference sim_node_Reference s0 r h
end Go.Proofs.Ytoeppofkmcdknaa.K
