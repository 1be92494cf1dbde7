/- Layer 20: what it reckons. -/
import Derived.Test.YtfnlcnnoedmfiaaAWR08
import Derived.KernelRfl
namespace Go.Proofs.Ytfnlcnnoedmfiaa.K
open Go Go.RowKit
set_option linter.unusedSimpArgs false
set_option linter.unusedVariables false
set_option maxRecDepth 20000
set_option maxHeartbeats 4000000
namespace TT
theorem enters_10 : entersB Try.prog 10 = true := by kernel_rfl
theorem enters_11 : entersB Try.prog 11 = true := by kernel_rfl
theorem enters_12 : entersB Try.prog 12 = true := by kernel_rfl
theorem enters_13 : entersB Try.prog 13 = true := by kernel_rfl
theorem enters_14 : entersB Try.prog 14 = true := by kernel_rfl
theorem enters_15 : entersB Try.prog 15 = true := by kernel_rfl
theorem enters_16 : entersB Try.prog 16 = true := by kernel_rfl
theorem enters_17 : entersB Try.prog 17 = true := by kernel_rfl
theorem enters_18 : entersB Try.prog 18 = true := by kernel_rfl
theorem enters_25 : entersB Try.prog 25 = true := by kernel_rfl
theorem enters_26 : entersB Try.prog 26 = true := by kernel_rfl
theorem enters_27 : entersB Try.prog 27 = true := by kernel_rfl
theorem enters_28 : entersB Try.prog 28 = true := by kernel_rfl
theorem enters_4 : entersB Try.prog 4 = true := by kernel_rfl
theorem enters_5 : entersB Try.prog 5 = true := by kernel_rfl
theorem enters_6 : entersB Try.prog 6 = true := by kernel_rfl
theorem enters_8 : entersB Try.prog 8 = true := by kernel_rfl
theorem res_10 : Try.f10.results.toList = [.tmp 0] := rfl
theorem res_12 : Try.f12.results.toList = [.tmp 2] := rfl
theorem res_14 : Try.f14.results.toList = [.tmp 2] := rfl
theorem res_17 : Try.f17.results.toList = [.tmp 4] := rfl
theorem res_18 : Try.f18.results.toList = [.tmp 2] := rfl
theorem res_25 : Try.f25.results.toList = [.tmp 4] := rfl
theorem res_26 : Try.f26.results.toList = [.tmp 6] := rfl
theorem res_27 : Try.f27.results.toList = [.tmp 2] := rfl
theorem res_28 : Try.f28.results.toList = [.tmp 1] := rfl
theorem res_3 : Try.f3.results.toList = [.tmp 4] := rfl
end TT
noncomputable def g_size_within (n0 : Int) : Option Int :=
    some (minI (maxI n0 (0 : Int)) (1048576 : Int))
theorem sim_size_within (n0 : Int) (r : Int) (h : g_size_within n0 = some r) : Fun Try.prog 27 [.val (.int .i64 n0)] (.val (.int .i64 r)) := by
  refine Fun.of_bodyQ Try.func27 rfl (by simp [Try.ntmps27]) ?_
  rw [Try.ntmps27, TT.res_27]
  refine QW.view (s' := ⟨tab [(0, pI n0)], tabH [], 0, []⟩) (View.init (by rfl)) zL ?_
  unfold g_size_within at h
  refine sR ?_
  refine xz 2 (pI (0)) ?_
  refine sR ?_
  refine xm 3 (pI n0) ?_
  refine xs 4 rfl (sf_max (a := n0) (b := (0 : Int)) rfl rfl rfl ?_)
  refine xs 5 rfl (sf_min (a := (maxI n0 (0 : Int))) (b := (1048576 : Int)) rfl rfl rfl ?_)
  refine xz 2 (pI (minI (maxI n0 (0 : Int)) (1048576 : Int))) ?_
  refine QW.ret zL ?_
  obtain rfl := sO h
  exact Ends.one (.inr rfl) rfl (ResIs.tmp rfl) rfl rfl
noncomputable def g_size_Node (value0 : Int) : Option Int :=
    ((g_size_within value0).bind fun (x_1 : Int) =>
    gO (inI ((600 : Int) + x_1)) (
    some ((600 : Int) + x_1)))
theorem sim_size_Node (value0 : Int) (r : Int) (h : g_size_Node value0 = some r) : Fun Try.prog 12 [.val (.int .i64 value0)] (.val (.int .i64 r)) := by
  refine Fun.of_bodyQ Try.func12 rfl (by simp [Try.ntmps12]) ?_
  rw [Try.ntmps12, TT.res_12]
  refine QW.view (s' := ⟨tab [(0, pI value0)], tabH [], 0, []⟩) (View.init (by rfl)) zL ?_
  unfold g_size_Node at h
  refine sR ?_
  refine xz 2 (pI (0)) ?_
  refine sR ?_
  refine xm 3 (pI value0) ?_
  obtain ⟨x_1, hx_2, h⟩ := bO h
  refine xs 4 rfl (sf_call rfl rfl TT.enters_27 rfl (sim_size_within value0 _ hx_2) ?_)
  obtain ⟨c_3, h⟩ := gO_get h
  refine xs 5 rfl (sf_add (a := (600 : Int)) (b := x_1) rfl rfl rfl c_3 ?_)
  refine xz 2 (pI ((600 : Int) + x_1)) ?_
  refine QW.ret zL ?_
  obtain rfl := sO h
  exact Ends.one (.inr rfl) rfl (ResIs.tmp rfl) rfl rfl
noncomputable def g_size_Proof (value0 : Int) : Option Int :=
    ((g_size_Node value0).bind fun (x_1 : Int) =>
    gO (inI ((36400 : Int) + x_1)) (
    some ((36400 : Int) + x_1)))
theorem sim_size_Proof (value0 : Int) (r : Int) (h : g_size_Proof value0 = some r) : Fun Try.prog 14 [.val (.int .i64 value0)] (.val (.int .i64 r)) := by
  refine Fun.of_bodyQ Try.func14 rfl (by simp [Try.ntmps14]) ?_
  rw [Try.ntmps14, TT.res_14]
  refine QW.view (s' := ⟨tab [(0, pI value0)], tabH [], 0, []⟩) (View.init (by rfl)) zL ?_
  unfold g_size_Proof at h
  refine sR ?_
  refine xz 2 (pI (0)) ?_
  refine sR ?_
  refine xm 3 (pI value0) ?_
  obtain ⟨x_1, hx_2, h⟩ := bO h
  refine xs 4 rfl (sf_call rfl rfl TT.enters_12 rfl (sim_size_Node value0 _ hx_2) ?_)
  obtain ⟨c_3, h⟩ := gO_get h
  refine xs 5 rfl (sf_add (a := (36400 : Int)) (b := x_1) rfl rfl rfl c_3 ?_)
  refine xz 2 (pI ((36400 : Int) + x_1)) ?_
  refine QW.ret zL ?_
  obtain rfl := sO h
  exact Ends.one (.inr rfl) rfl (ResIs.tmp rfl) rfl rfl
noncomputable def g_size_Texts (links0 : Int) : Option Int :=
    ((g_size_within links0).bind fun (x_1 : Int) =>
    gO (inI ((65 : Int) * x_1)) (
    some ((65 : Int) * x_1)))
theorem sim_size_Texts (links0 : Int) (r : Int) (h : g_size_Texts links0 = some r) : Fun Try.prog 18 [.val (.int .i64 links0)] (.val (.int .i64 r)) := by
  refine Fun.of_bodyQ Try.func18 rfl (by simp [Try.ntmps18]) ?_
  rw [Try.ntmps18, TT.res_18]
  refine QW.view (s' := ⟨tab [(0, pI links0)], tabH [], 0, []⟩) (View.init (by rfl)) zL ?_
  unfold g_size_Texts at h
  refine sR ?_
  refine xz 2 (pI (0)) ?_
  refine sR ?_
  refine xm 3 (pI links0) ?_
  obtain ⟨x_1, hx_2, h⟩ := bO h
  refine xs 4 rfl (sf_call rfl rfl TT.enters_27 rfl (sim_size_within links0 _ hx_2) ?_)
  obtain ⟨c_3, h⟩ := gO_get h
  refine xs 5 rfl (sf_mul (a := (65 : Int)) (b := x_1) rfl rfl rfl c_3 ?_)
  refine xz 2 (pI ((65 : Int) * x_1)) ?_
  refine QW.ret zL ?_
  obtain rfl := sO h
  exact Ends.one (.inr rfl) rfl (ResIs.tmp rfl) rfl rfl
noncomputable def g_size_Witness (links0 : Int) (value1 : Int) : Option Int :=
    ((g_size_within links0).bind fun (x_1 : Int) =>
    ((g_size_Proof value1).bind fun (x_3 : Int) =>
    gO (inI (x_1 * x_3)) (
    some (x_1 * x_3))))
theorem sim_size_Witness (links0 : Int) (value1 : Int) (r : Int) (h : g_size_Witness links0 value1 = some r) : Fun Try.prog 25 [.val (.int .i64 links0), .val (.int .i64 value1)] (.val (.int .i64 r)) := by
  refine Fun.of_bodyQ Try.func25 rfl (by simp [Try.ntmps25]) ?_
  rw [Try.ntmps25, TT.res_25]
  refine QW.view (s' := ⟨tab [(0, pI links0), (1, pI value1)], tabH [], 0, []⟩) (View.init (by rfl)) zL ?_
  unfold g_size_Witness at h
  refine sR ?_
  refine xz 4 (pI (0)) ?_
  refine sR ?_
  refine xm 5 (pI links0) ?_
  obtain ⟨x_1, hx_2, h⟩ := bO h
  refine xs 6 rfl (sf_call rfl rfl TT.enters_27 rfl (sim_size_within links0 _ hx_2) ?_)
  refine xm 7 (pI value1) ?_
  obtain ⟨x_3, hx_4, h⟩ := bO h
  refine xs 8 rfl (sf_call rfl rfl TT.enters_14 rfl (sim_size_Proof value1 _ hx_4) ?_)
  obtain ⟨c_5, h⟩ := gO_get h
  refine xs 9 rfl (sf_mul (a := x_1) (b := x_3) rfl rfl rfl c_5 ?_)
  refine xz 4 (pI (x_1 * x_3)) ?_
  refine QW.ret zL ?_
  obtain rfl := sO h
  exact Ends.one (.inr rfl) rfl (ResIs.tmp rfl) rfl rfl
noncomputable def g_size_Body_1 (v0 : Int) : Option Int :=
    ((g_size_Node v0).bind fun (x_1 : Int) =>
    gO (inI (x_1 + (1200 : Int))) (
    some (x_1 + (1200 : Int))))
theorem sim_size_Body_1 (v0 : Int) (r : Int) (h : g_size_Body_1 v0 = some r) : Fun Try.prog 28 [.cptr ([.val (.int .i64 v0)])] (.val (.int .i64 r)) := by
  refine Fun.of_bodyQ Try.func28 rfl (by simp [Try.ntmps28]) ?_
  rw [Try.ntmps28, TT.res_28]
  refine QW.view (s' := ⟨tab [(0, .d (.cptr ([.val (.int .i64 v0)])))], tabH [], 0, []⟩) (View.init (by rfl)) zL ?_
  unfold g_size_Body_1 at h
  refine sR ?_
  refine xz 1 (pI (0)) ?_
  refine sR ?_
  refine xs 2 rfl (sf_ldC (d := .val (.int .i64 v0)) rfl TT.tyA_3 rfl (LdC.one) ?_)
  obtain ⟨x_1, hx_2, h⟩ := bO h
  refine xs 3 rfl (sf_call rfl rfl TT.enters_12 rfl (sim_size_Node v0 _ hx_2) ?_)
  obtain ⟨c_3, h⟩ := gO_get h
  refine xs 4 rfl (sf_add (a := x_1) (b := (1200 : Int)) rfl rfl rfl c_3 ?_)
  refine xz 1 (pI (x_1 + (1200 : Int))) ?_
  refine QW.ret zL ?_
  obtain rfl := sO h
  exact Ends.one (.inr rfl) rfl (ResIs.tmp rfl) rfl rfl
noncomputable def g_size_Body (keys0 : Int) (value1 : Int) : Option Int :=
    ((g_size_within keys0).bind fun (x_1 : Int) =>
    ((g_size_Body_1 value1).bind fun (x_3 : Int) =>
    gO (inI (x_1 * x_3)) (
    some (x_1 * x_3))))
theorem sim_size_Body (keys0 : Int) (value1 : Int) (r : Int) (h : g_size_Body keys0 value1 = some r) : Fun Try.prog 17 [.val (.int .i64 keys0), .val (.int .i64 value1)] (.val (.int .i64 r)) := by
  refine Fun.of_bodyQ Try.func17 rfl (by simp [Try.ntmps17]) ?_
  rw [Try.ntmps17, TT.res_17]
  refine QW.view (s' := ⟨tab [(0, pI keys0), (1, pI value1)], tabH [], 0, []⟩) (View.init (by rfl)) zL ?_
  unfold g_size_Body at h
  refine sR ?_
  refine XK.fz (some 3) rfl rfl (sf_boxF (ds := [.val (.int .i64 value1)]) rfl rfl rfl rfl rfl ?_)
  refine xz 4 (pI (0)) ?_
  refine sR ?_
  refine xs 6 rfl (sf_func rfl rfl ?_)
  refine xz 5 (.d (.clo 28 [.cptr ([.val (.int .i64 value1)])])) ?_
  refine sR ?_
  refine xm 7 (pI keys0) ?_
  obtain ⟨x_1, hx_2, h⟩ := bO h
  refine xs 8 rfl (sf_call rfl rfl TT.enters_27 rfl (sim_size_within keys0 _ hx_2) ?_)
  refine xm 9 (.d (.clo 28 [.cptr ([.val (.int .i64 value1)])])) ?_
  obtain ⟨x_3, hx_4, h⟩ := bO h
  refine xs 10 rfl (sf_clo rfl rfl rfl TT.enters_28 rfl (sim_size_Body_1 value1 _ hx_4) ?_)
  obtain ⟨c_5, h⟩ := gO_get h
  refine xs 11 rfl (sf_mul (a := x_1) (b := x_3) rfl rfl rfl c_5 ?_)
  refine xz 4 (pI (x_1 * x_3)) ?_
  refine QW.ret zL ?_
  obtain rfl := sO h
  exact Ends.one (.inr rfl) rfl (ResIs.tmp rfl) rfl rfl
noncomputable def g_size_Retained (keys0 : Int) (epochs1 : Int) (value2 : Int) : Option Int :=
    ((g_size_Body keys0 value2).bind fun (x_1 : Int) =>
    ((g_size_within epochs1).bind fun (x_3 : Int) =>
    gO (inI ((32 : Int) * x_3)) (
    gO (inI (x_1 + ((32 : Int) * x_3))) (
    some (x_1 + ((32 : Int) * x_3))))))
theorem sim_size_Retained (keys0 : Int) (epochs1 : Int) (value2 : Int) (r : Int) (h : g_size_Retained keys0 epochs1 value2 = some r) : Fun Try.prog 26 [.val (.int .i64 keys0), .val (.int .i64 epochs1), .val (.int .i64 value2)] (.val (.int .i64 r)) := by
  refine Fun.of_bodyQ Try.func26 rfl (by simp [Try.ntmps26]) ?_
  rw [Try.ntmps26, TT.res_26]
  refine QW.view (s' := ⟨tab [(0, pI keys0), (1, pI epochs1), (2, pI value2)], tabH [], 0, []⟩) (View.init (by rfl)) zL ?_
  unfold g_size_Retained at h
  refine sR ?_
  refine xz 6 (pI (0)) ?_
  refine sR ?_
  refine xm 7 (pI keys0) ?_
  refine xm 8 (pI value2) ?_
  obtain ⟨x_1, hx_2, h⟩ := bO h
  refine xs 9 rfl (sf_call rfl rfl TT.enters_17 rfl (sim_size_Body keys0 value2 _ hx_2) ?_)
  refine xm 10 (pI epochs1) ?_
  obtain ⟨x_3, hx_4, h⟩ := bO h
  refine xs 11 rfl (sf_call rfl rfl TT.enters_27 rfl (sim_size_within epochs1 _ hx_4) ?_)
  obtain ⟨c_5, h⟩ := gO_get h
  refine xs 12 rfl (sf_mul (a := (32 : Int)) (b := x_3) rfl rfl rfl c_5 ?_)
  obtain ⟨c_6, h⟩ := gO_get h
  refine xs 13 rfl (sf_add (a := x_1) (b := ((32 : Int) * x_3)) rfl rfl rfl c_6 ?_)
  refine xz 6 (pI (x_1 + ((32 : Int) * x_3))) ?_
  refine QW.ret zL ?_
  obtain rfl := sO h
  exact Ends.one (.inr rfl) rfl (ResIs.tmp rfl) rfl rfl
noncomputable def g_law20_awake  : Option Bool :=
    ((g_size_Node (10)).bind fun (x_1 : Int) =>
    ((bif ((decide (x_1 = (610 : Int))) == true) then g_size_Proof (0) else some default).bind fun (x_3 : Int) =>
    ((bif (((decide (x_1 = (610 : Int))) && (decide (x_3 = (37000 : Int)))) == true) then g_size_Texts (2) else some default).bind fun (x_5 : Int) =>
    ((bif ((((decide (x_1 = (610 : Int))) && (decide (x_3 = (37000 : Int)))) && (decide (x_5 = (130 : Int)))) == true) then g_size_Witness (1) (0) else some default).bind fun (x_7 : Int) =>
    ((bif ((((decide (x_1 = (610 : Int))) && (decide (x_3 = (37000 : Int)))) && (decide (x_5 = (130 : Int)))) == true) then g_size_Proof (0) else some default).bind fun (x_9 : Int) =>
    ((bif (((((decide (x_1 = (610 : Int))) && (decide (x_3 = (37000 : Int)))) && (decide (x_5 = (130 : Int)))) && (decide (x_7 = x_9))) == true) then g_size_Body (1) (0) else some default).bind fun (x_11 : Int) =>
    ((bif ((((((decide (x_1 = (610 : Int))) && (decide (x_3 = (37000 : Int)))) && (decide (x_5 = (130 : Int)))) && (decide (x_7 = x_9))) && (decide (x_11 = (1800 : Int)))) == true) then g_size_Retained (0) (3) (0) else some default).bind fun (x_13 : Int) =>
    some ((((((decide (x_1 = (610 : Int))) && (decide (x_3 = (37000 : Int)))) && (decide (x_5 = (130 : Int)))) && (decide (x_7 = x_9))) && (decide (x_11 = (1800 : Int)))) && (decide (x_13 = (96 : Int)))))))))))
theorem sim_law20_awake  (r : Bool) (h : g_law20_awake  = some r) : Fun Try.prog 10 [] (.val (.bool r)) := by
  refine Fun.of_bodyQ Try.func10 rfl (by simp [Try.ntmps10]) ?_
  rw [Try.ntmps10, TT.res_10]
  refine QW.view (s' := ⟨tab [], tabH [], 0, []⟩) (View.init (by rfl)) zL ?_
  unfold g_law20_awake at h
  refine sR ?_
  refine xz 0 (pB false) ?_
  refine sR ?_
  obtain ⟨x_1, hx_2, h⟩ := bO h
  refine xs 1 rfl (sf_call rfl rfl TT.enters_12 rfl (sim_size_Node (10) _ hx_2) ?_)
  refine xs 2 rfl (sf_eq (a := x_1) (b := (610 : Int)) rfl rfl rfl ?_)
  refine xm 3 (pB (decide (x_1 = (610 : Int)))) ?_
  obtain ⟨x_3, hx_4, h⟩ := bO h
  refine xg 4 (pI x_3) rfl rfl (fun hg => sf_call rfl rfl TT.enters_14 rfl (sim_size_Proof (0) _ (bT hx_4 hg)) g3) ?_
  refine xg 5 (pB (decide (x_3 = (37000 : Int)))) rfl rfl (fun hg => sf_eq (a := x_3) (b := (37000 : Int)) rfl rfl rfl g3) ?_
  refine xs 6 rfl (sf_pickA rfl rfl rfl rfl (fun hb => by rw [hb]; rfl) (fun _ => rfl) ?_)
  refine xm 7 (pB ((decide (x_1 = (610 : Int))) && (decide (x_3 = (37000 : Int))))) ?_
  obtain ⟨x_5, hx_6, h⟩ := bO h
  refine xg 8 (pI x_5) rfl rfl (fun hg => sf_call rfl rfl TT.enters_18 rfl (sim_size_Texts (2) _ (bT hx_6 hg)) g3) ?_
  refine xg 9 (pB (decide (x_5 = (130 : Int)))) rfl rfl (fun hg => sf_eq (a := x_5) (b := (130 : Int)) rfl rfl rfl g3) ?_
  refine xs 10 rfl (sf_pickA rfl rfl rfl rfl (fun hb => by rw [hb]; rfl) (fun _ => rfl) ?_)
  refine xm 11 (pB (((decide (x_1 = (610 : Int))) && (decide (x_3 = (37000 : Int)))) && (decide (x_5 = (130 : Int))))) ?_
  obtain ⟨x_7, hx_8, h⟩ := bO h
  refine xg 12 (pI x_7) rfl rfl (fun hg => sf_call rfl rfl TT.enters_25 rfl (sim_size_Witness (1) (0) _ (bT hx_8 hg)) g3) ?_
  obtain ⟨x_9, hx_10, h⟩ := bO h
  refine xg 13 (pI x_9) rfl rfl (fun hg => sf_call rfl rfl TT.enters_14 rfl (sim_size_Proof (0) _ (bT hx_10 hg)) g3) ?_
  refine xg 14 (pB (decide (x_7 = x_9))) rfl rfl (fun hg => sf_eq (a := x_7) (b := x_9) rfl rfl rfl g3) ?_
  refine xs 15 rfl (sf_pickA rfl rfl rfl rfl (fun hb => by rw [hb]; rfl) (fun _ => rfl) ?_)
  refine xm 16 (pB ((((decide (x_1 = (610 : Int))) && (decide (x_3 = (37000 : Int)))) && (decide (x_5 = (130 : Int)))) && (decide (x_7 = x_9)))) ?_
  obtain ⟨x_11, hx_12, h⟩ := bO h
  refine xg 17 (pI x_11) rfl rfl (fun hg => sf_call rfl rfl TT.enters_17 rfl (sim_size_Body (1) (0) _ (bT hx_12 hg)) g3) ?_
  refine xg 18 (pB (decide (x_11 = (1800 : Int)))) rfl rfl (fun hg => sf_eq (a := x_11) (b := (1800 : Int)) rfl rfl rfl g3) ?_
  refine xs 19 rfl (sf_pickA rfl rfl rfl rfl (fun hb => by rw [hb]; rfl) (fun _ => rfl) ?_)
  refine xm 20 (pB (((((decide (x_1 = (610 : Int))) && (decide (x_3 = (37000 : Int)))) && (decide (x_5 = (130 : Int)))) && (decide (x_7 = x_9))) && (decide (x_11 = (1800 : Int))))) ?_
  obtain ⟨x_13, hx_14, h⟩ := bO h
  refine xg 21 (pI x_13) rfl rfl (fun hg => sf_call rfl rfl TT.enters_26 rfl (sim_size_Retained (0) (3) (0) _ (bT hx_14 hg)) g3) ?_
  refine xg 22 (pB (decide (x_13 = (96 : Int)))) rfl rfl (fun hg => sf_eq (a := x_13) (b := (96 : Int)) rfl rfl rfl g3) ?_
  refine xs 23 rfl (sf_pickA rfl rfl rfl rfl (fun hb => by rw [hb]; rfl) (fun _ => rfl) ?_)
  refine xz 0 (pB ((((((decide (x_1 = (610 : Int))) && (decide (x_3 = (37000 : Int)))) && (decide (x_5 = (130 : Int)))) && (decide (x_7 = x_9))) && (decide (x_11 = (1800 : Int)))) && (decide (x_13 = (96 : Int))))) ?_
  refine QW.ret zL ?_
  obtain rfl := sO h
  exact Ends.one (.inr rfl) rfl (ResIs.tmp rfl) rfl rfl
noncomputable def g_law20_SizeTrees (l0 : (List Pair)) (k1 : (Arr 32 UInt8)) : Option Bool :=
    ((g_law08_Pairs l0).bind fun (x_1 : (List Pair)) =>
    ((g_ref08_Ins x_1).bind fun (x_3 : (List In)) =>
    ((g_ref20_Value x_1).bind fun (x_5 : Int) =>
    ((g_ref08_Nodes x_3).bind fun (x_7 : (List (List UInt8))) =>
    ((g_ref02_Path k1).bind fun (x_9 : (List UInt8)) =>
    ((g_ref13_Of x_3 x_9).bind fun (x_11 : (List (List UInt8))) =>
    ((g_law20_awake ).bind fun (x_13 : Bool) =>
    ((bif (x_13 == true) then g_ref20_Longest x_7 else some default).bind fun (x_15 : Int) =>
    ((bif (x_13 == true) then g_size_Node x_5 else some default).bind fun (x_17 : Int) =>
    ((bif ((x_13 && (decide (x_15 ≤ x_17))) == true) then g_ref13_Bytes x_11 else some default).bind fun (x_19 : Int) =>
    ((bif ((x_13 && (decide (x_15 ≤ x_17))) == true) then g_size_Proof x_5 else some default).bind fun (x_21 : Int) =>
    ((bif (((x_13 && (decide (x_15 ≤ x_17))) && (decide (x_19 ≤ x_21))) == true) then g_ref09_Bodies x_7 else some default).bind fun (x_23 : (List (List UInt8))) =>
    ((bif (((x_13 && (decide (x_15 ≤ x_17))) && (decide (x_19 ≤ x_21))) == true) then g_ref09_Weight x_23 else some default).bind fun (x_25 : Int) =>
    ((bif (((x_13 && (decide (x_15 ≤ x_17))) && (decide (x_19 ≤ x_21))) == true) then g_size_Body (x_3.length : Int) x_5 else some default).bind fun (x_27 : Int) =>
    ((bif ((((x_13 && (decide (x_15 ≤ x_17))) && (decide (x_19 ≤ x_21))) && (decide (x_25 ≤ x_27))) == true) then g_size_Texts (1) else some default).bind fun (x_29 : Int) =>
    some ((((x_13 && (decide (x_15 ≤ x_17))) && (decide (x_19 ≤ x_21))) && (decide (x_25 ≤ x_27))) && (decide ((x_11.length : Int) ≤ x_29))))))))))))))))))
theorem sim_law20_SizeTrees (l0 : (List Pair)) (k1 : (Arr 32 UInt8)) (r : Bool) (h : g_law20_SizeTrees l0 k1 = some r) : Fun Try.prog 3 [.slice (l0.map ePair), .agg (k1.1.map byteD)] (.val (.bool r)) := by
  refine Fun.of_bodyQ Try.func3 rfl (by simp [Try.ntmps3]) ?_
  rw [Try.ntmps3, TT.res_3]
  refine QW.view (s' := ⟨tab [(0, .d (.slice (l0.map ePair))), (1, .d (.agg (k1.1.map byteD)))], tabH [], 0, []⟩) (View.init (by rfl)) zL ?_
  unfold g_law20_SizeTrees at h
  refine sR ?_
  refine XK.fz (some 3) rfl rfl (sf_boxF (ds := k1.1.map byteD) rfl rfl rfl rfl toDs_map ?_)
  refine xz 4 (pB false) ?_
  refine sR ?_
  refine xm 9 (.d (.slice (l0.map ePair))) ?_
  obtain ⟨x_1, hx_2, h⟩ := bO h
  refine xs 10 rfl (sf_call rfl rfl TT.enters_4 rfl (sim_law08_Pairs l0 _ hx_2) ?_)
  refine xz 0 (.d (.slice (x_1.map ePair))) ?_
  refine sR ?_
  refine xm 11 (.d (.slice (x_1.map ePair))) ?_
  obtain ⟨x_3, hx_4, h⟩ := bO h
  refine xs 12 rfl (sf_call rfl rfl TT.enters_5 rfl (sim_ref08_Ins x_1 _ hx_4) ?_)
  refine xz 5 (.d (.slice (x_3.map eIn))) ?_
  refine sR ?_
  refine xm 13 (.d (.slice (x_1.map ePair))) ?_
  obtain ⟨x_5, hx_6, h⟩ := bO h
  refine xs 14 rfl (sf_call rfl rfl TT.enters_6 rfl (sim_ref20_Value x_1 _ hx_6) ?_)
  refine xz 6 (pI x_5) ?_
  refine sR ?_
  refine xm 15 (.d (.slice (x_3.map eIn))) ?_
  obtain ⟨x_7, hx_8, h⟩ := bO h
  refine xs 16 rfl (sf_call rfl rfl TT.enters_7 rfl (sim_ref08_Nodes x_3 _ hx_8) ?_)
  refine xz 7 (.d (.slice (x_7.map eS))) ?_
  refine sR ?_
  refine xm 17 (.d (.slice (x_3.map eIn))) ?_
  refine xs 18 rfl (sf_ldC (d := .agg (k1.1.map byteD)) rfl TT.tyA_24 rfl (ldc_all (by rw [List.length_map, k1.2])) ?_)
  obtain ⟨x_9, hx_10, h⟩ := bO h
  refine xs 19 rfl (sf_call rfl rfl TT.enters_9 rfl (sim_ref02_Path k1 _ hx_10) ?_)
  obtain ⟨x_11, hx_12, h⟩ := bO h
  refine xs 20 rfl (sf_call rfl rfl TT.enters_8 rfl (sim_ref13_Of x_3 x_9 _ hx_12) ?_)
  refine xz 8 (.d (.slice (x_11.map eS))) ?_
  refine QW.seq ?_
  refine QW.view (s' := ⟨tab [(5, .d (.slice (x_3.map eIn))), (6, pI x_5), (7, .d (.slice (x_7.map eS))), (8, .d (.slice (x_11.map eS)))], tabH [], 0, []⟩) (View.mk 0 [] _ _ _ rfl rfl (by decide) (iC (iC (iC (iC trivial)))) trivial rfl zL rfl) zL ?_
  refine rG ?_
  obtain ⟨x_13, hx_14, h⟩ := bO h
  refine xs 21 rfl (sf_call rfl rfl TT.enters_10 rfl (sim_law20_awake  _ hx_14) ?_)
  refine xm 22 (pB x_13) ?_
  refine xg 23 (.d (.slice (x_7.map eS))) rfl rfl (fun hg => sf_move (v := .d (.slice (x_7.map eS))) rfl rfl g3) ?_
  obtain ⟨x_15, hx_16, h⟩ := bO h
  refine xg 24 (pI x_15) rfl rfl (fun hg => sf_call rfl rfl TT.enters_11 rfl (sim_ref20_Longest x_7 _ (bT hx_16 hg)) g3) ?_
  refine xg 25 (pI x_5) rfl rfl (fun hg => sf_move (v := pI x_5) rfl rfl g3) ?_
  obtain ⟨x_17, hx_18, h⟩ := bO h
  refine xg 26 (pI x_17) rfl rfl (fun hg => sf_call rfl rfl TT.enters_12 rfl (sim_size_Node x_5 _ (bT hx_18 hg)) g3) ?_
  refine xg 27 (pB (decide (x_15 ≤ x_17))) rfl rfl (fun hg => sf_leq (a := x_15) (b := x_17) rfl rfl rfl g3) ?_
  refine xs 28 rfl (sf_pickA rfl rfl rfl rfl (fun hb => by rw [hb]; rfl) (fun _ => rfl) ?_)
  refine xm 29 (pB (x_13 && (decide (x_15 ≤ x_17)))) ?_
  refine xg 30 (.d (.slice (x_11.map eS))) rfl rfl (fun hg => sf_move (v := .d (.slice (x_11.map eS))) rfl rfl g3) ?_
  obtain ⟨x_19, hx_20, h⟩ := bO h
  refine xg 31 (pI x_19) rfl rfl (fun hg => sf_call rfl rfl TT.enters_13 rfl (sim_ref13_Bytes x_11 _ (bT hx_20 hg)) g3) ?_
  refine xg 32 (pI x_5) rfl rfl (fun hg => sf_move (v := pI x_5) rfl rfl g3) ?_
  obtain ⟨x_21, hx_22, h⟩ := bO h
  refine xg 33 (pI x_21) rfl rfl (fun hg => sf_call rfl rfl TT.enters_14 rfl (sim_size_Proof x_5 _ (bT hx_22 hg)) g3) ?_
  refine xg 34 (pB (decide (x_19 ≤ x_21))) rfl rfl (fun hg => sf_leq (a := x_19) (b := x_21) rfl rfl rfl g3) ?_
  refine xs 35 rfl (sf_pickA rfl rfl rfl rfl (fun hb => by rw [hb]; rfl) (fun _ => rfl) ?_)
  refine xm 36 (pB ((x_13 && (decide (x_15 ≤ x_17))) && (decide (x_19 ≤ x_21)))) ?_
  refine xg 37 (.d (.slice (x_7.map eS))) rfl rfl (fun hg => sf_move (v := .d (.slice (x_7.map eS))) rfl rfl g3) ?_
  obtain ⟨x_23, hx_24, h⟩ := bO h
  refine xg 38 (.d (.slice (x_23.map eS))) rfl rfl (fun hg => sf_call rfl rfl TT.enters_16 rfl (sim_ref09_Bodies x_7 _ (bT hx_24 hg)) g3) ?_
  obtain ⟨x_25, hx_26, h⟩ := bO h
  refine xg 39 (pI x_25) rfl rfl (fun hg => sf_call rfl rfl TT.enters_15 rfl (sim_ref09_Weight x_23 _ (bT hx_26 hg)) g3) ?_
  refine xg 40 (.d (.slice (x_3.map eIn))) rfl rfl (fun hg => sf_move (v := .d (.slice (x_3.map eIn))) rfl rfl g3) ?_
  refine xg 41 (pI (x_3.length : Int)) rfl rfl (fun hg => sf_lenL (en := eIn) (l := x_3) rfl TT.under_26 rfl g3) ?_
  refine xg 42 (pI x_5) rfl rfl (fun hg => sf_move (v := pI x_5) rfl rfl g3) ?_
  obtain ⟨x_27, hx_28, h⟩ := bO h
  refine xg 43 (pI x_27) rfl rfl (fun hg => sf_call rfl rfl TT.enters_17 rfl (sim_size_Body (x_3.length : Int) x_5 _ (bT hx_28 hg)) g3) ?_
  refine xg 44 (pB (decide (x_25 ≤ x_27))) rfl rfl (fun hg => sf_leq (a := x_25) (b := x_27) rfl rfl rfl g3) ?_
  refine xs 45 rfl (sf_pickA rfl rfl rfl rfl (fun hb => by rw [hb]; rfl) (fun _ => rfl) ?_)
  refine xm 46 (pB (((x_13 && (decide (x_15 ≤ x_17))) && (decide (x_19 ≤ x_21))) && (decide (x_25 ≤ x_27)))) ?_
  refine xg 47 (.d (.slice (x_11.map eS))) rfl rfl (fun hg => sf_move (v := .d (.slice (x_11.map eS))) rfl rfl g3) ?_
  refine xg 48 (pI (x_11.length : Int)) rfl rfl (fun hg => sf_lenL (en := eS) (l := x_11) rfl TT.under_29 rfl g3) ?_
  obtain ⟨x_29, hx_30, h⟩ := bO h
  refine xg 49 (pI x_29) rfl rfl (fun hg => sf_call rfl rfl TT.enters_18 rfl (sim_size_Texts (1) _ (bT hx_30 hg)) g3) ?_
  refine xg 50 (pB (decide ((x_11.length : Int) ≤ x_29))) rfl rfl (fun hg => sf_leq (a := (x_11.length : Int)) (b := x_29) rfl rfl rfl g3) ?_
  refine xs 51 rfl (sf_pickA rfl rfl rfl rfl (fun hb => by rw [hb]; rfl) (fun _ => rfl) ?_)
  refine xz 4 (pB ((((x_13 && (decide (x_15 ≤ x_17))) && (decide (x_19 ≤ x_21))) && (decide (x_25 ≤ x_27))) && (decide ((x_11.length : Int) ≤ x_29)))) ?_
  refine QW.ret zL ?_
  obtain rfl := sO h
  exact Ends.one (.inr rfl) rfl (ResIs.tmp rfl) rfl rfl
end Go.Proofs.Ytfnlcnnoedmfiaa.K
