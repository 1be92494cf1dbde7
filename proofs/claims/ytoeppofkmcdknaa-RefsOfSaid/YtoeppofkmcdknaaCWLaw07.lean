/- Layer 07: what it reckons. -/
import Derived.Test.YtoeppofkmcdknaaCWR03
import Derived.KernelRfl
namespace Go.Proofs.Ytoeppofkmcdknaa.K
open Go Go.RowKit
set_option linter.unusedSimpArgs false
set_option linter.unusedVariables false
set_option maxRecDepth 20000
set_option maxHeartbeats 4000000
namespace TT
theorem arrB_35_32 : arrB Try.prog 35 32 = true := by kernel_rfl
theorem enters_129 : entersB Try.prog 129 = true := by kernel_rfl
theorem enters_133 : entersB Try.prog 133 = true := by kernel_rfl
theorem enters_134 : entersB Try.prog 134 = true := by kernel_rfl
theorem enters_135 : entersB Try.prog 135 = true := by kernel_rfl
theorem enters_63 : entersB Try.prog 63 = true := by kernel_rfl
theorem enters_64 : entersB Try.prog 64 = true := by kernel_rfl
theorem enters_65 : entersB Try.prog 65 = true := by kernel_rfl
theorem enters_67 : entersB Try.prog 67 = true := by kernel_rfl
theorem enters_70 : entersB Try.prog 70 = true := by kernel_rfl
theorem enters_71 : entersB Try.prog 71 = true := by kernel_rfl
theorem enters_72 : entersB Try.prog 72 = true := by kernel_rfl
theorem enters_73 : entersB Try.prog 73 = true := by kernel_rfl
theorem enters_74 : entersB Try.prog 74 = true := by kernel_rfl
theorem enters_75 : entersB Try.prog 75 = true := by kernel_rfl
theorem res_133 : Try.f133.results.toList = [.tmp 3] := rfl
theorem res_14 : Try.f14.results.toList = [.tmp 6] := rfl
theorem res_63 : Try.f63.results.toList = [.tmp 0] := rfl
theorem res_64 : Try.f64.results.toList = [.tmp 2] := rfl
theorem res_65 : Try.f65.results.toList = [.tmp 2] := rfl
theorem res_67 : Try.f67.results.toList = [.tmp 2, .tmp 3, .tmp 4] := rfl
theorem res_70 : Try.f70.results.toList = [.tmp 2] := rfl
theorem res_71 : Try.f71.results.toList = [.tmp 4, .tmp 5] := rfl
theorem res_72 : Try.f72.results.toList = [.tmp 2] := rfl
theorem res_73 : Try.f73.results.toList = [.cell 2 35] := rfl
theorem res_74 : Try.f74.results.toList = [.cell 2 35] := rfl
theorem res_75 : Try.f75.results.toList = [.tmp 4] := rfl
theorem rowA_153 : rowA Try.prog 153 = some (32, 32) := by kernel_rfl
theorem slcA_153 : slcA Try.prog 153 = some (32, 32, true) := by kernel_rfl
theorem under_153 : Program.underlying Try.prog 153 = some (.slice 35) := by kernel_rfl
theorem under_4 : Program.underlying Try.prog 4 = some (.bool) := by kernel_rfl
end TT
noncomputable def g_refs_Of (enc0 : (List UInt8)) : Option (List UInt8) :=
    (bif (decide ((enc0.length : Int) < (32 : Int))) then
    some enc0
    else
    ((g_sum_Of enc0).bind fun (x_2 : (Arr 32 UInt8)) =>
    ((g_sum_Text x_2).bind fun (x_4 : (List UInt8)) =>
    some x_4)))
theorem sim_refs_Of (enc0 : (List UInt8)) (r : (List UInt8)) (h : g_refs_Of enc0 = some r) : Fun Try.prog 72 [.val (sV enc0)] (.val (sV r)) := by
  refine Fun.of_bodyQ Try.func72 rfl (by simp [Try.ntmps72]) ?_
  rw [Try.ntmps72, TT.res_72]
  refine QW.view (s' := ⟨tab [(0, pS enc0)], tabH [], 0, []⟩) (View.init (by rfl)) zL ?_
  unfold g_refs_Of at h
  refine sR ?_
  refine xz 2 (pS ([] : List UInt8)) ?_
  refine QW.seq ?_
  refine sR ?_
  refine xm 3 (pS enc0) ?_
  refine xs 4 rfl (sf_lenS (l := enc0) rfl TT.under_9 rfl ?_)
  refine xs 5 rfl (sf_lss (a := (enc0.length : Int)) (b := (32 : Int)) rfl rfl rfl ?_)
  refine XK.nz ?_
  refine QW.cond (t := (decide ((enc0.length : Int) < (32 : Int)))) rfl zL (fun hb_1 => ?_) (fun hb_1 => ?_)
  · replace h := bT h hb_1
    refine sR ?_
    refine xm 6 (pS enc0) ?_
    refine xz 2 (pS enc0) ?_
    refine QW.ret zL (thR ?_)
    obtain rfl := sO h
    exact Ends.one (.inr rfl) rfl (ResIs.tmp rfl) rfl rfl
  · replace h := bF h hb_1
    refine QW.skip zL (nrm ?_)
    refine sR ?_
    refine xm 7 (pS enc0) ?_
    obtain ⟨x_2, hx_3, h⟩ := bO h
    refine xs 8 rfl (sf_call rfl rfl TT.enters_129 rfl (sim_sum_Of enc0 _ hx_3) ?_)
    obtain ⟨x_4, hx_5, h⟩ := bO h
    refine xs 9 rfl (sf_call rfl rfl TT.enters_134 rfl (sim_sum_Text x_2 _ hx_5) ?_)
    refine xz 2 (pS x_4) ?_
    refine QW.ret zL ?_
    obtain rfl := sO h
    exact Ends.one (.inr rfl) rfl (ResIs.tmp rfl) rfl rfl
noncomputable def g_refs_Match (ref0 : (List UInt8)) (enc1 : (List UInt8)) : Option Bool :=
    ((bif ((!(enc1 == ([] : List UInt8))) == true) then g_refs_Of enc1 else some default).bind fun (x_1 : (List UInt8)) =>
    some ((!(enc1 == ([] : List UInt8))) && (ref0 == x_1)))
theorem sim_refs_Match (ref0 : (List UInt8)) (enc1 : (List UInt8)) (r : Bool) (h : g_refs_Match ref0 enc1 = some r) : Fun Try.prog 75 [.val (sV ref0), .val (sV enc1)] (.val (.bool r)) := by
  refine Fun.of_bodyQ Try.func75 rfl (by simp [Try.ntmps75]) ?_
  rw [Try.ntmps75, TT.res_75]
  refine QW.view (s' := ⟨tab [(0, pS ref0), (1, pS enc1)], tabH [], 0, []⟩) (View.init (by rfl)) zL ?_
  unfold g_refs_Match at h
  refine sR ?_
  refine xz 4 (pB false) ?_
  refine sR ?_
  refine xm 5 (pS enc1) ?_
  refine xs 6 rfl (sf_sne (a := enc1) (b := ([] : List UInt8)) rfl rfl rfl ?_)
  refine xm 7 (pB (!(enc1 == ([] : List UInt8)))) ?_
  refine xg 8 (pS ref0) rfl rfl (fun hg => sf_move (v := pS ref0) rfl rfl g3) ?_
  refine xg 9 (pS enc1) rfl rfl (fun hg => sf_move (v := pS enc1) rfl rfl g3) ?_
  obtain ⟨x_1, hx_2, h⟩ := bO h
  refine xg 10 (pS x_1) rfl rfl (fun hg => sf_call rfl rfl TT.enters_72 rfl (sim_refs_Of enc1 _ (bT hx_2 hg)) g3) ?_
  refine xg 11 (pB (ref0 == x_1)) rfl rfl (fun hg => sf_seq (a := ref0) (b := x_1) rfl rfl rfl g3) ?_
  refine xs 12 rfl (sf_pickA rfl rfl rfl rfl (fun hb => by rw [hb]; rfl) (fun _ => rfl) ?_)
  refine xz 4 (pB ((!(enc1 == ([] : List UInt8))) && (ref0 == x_1))) ?_
  refine QW.ret zL ?_
  obtain rfl := sO h
  exact Ends.one (.inr rfl) rfl (ResIs.tmp rfl) rfl rfl
noncomputable def g_refs_Find_1 (enc0 : (List UInt8)) (v1 : (List UInt8)) : Option Bool :=
    ((g_refs_Match v1 enc0).bind fun (x_1 : Bool) =>
    some x_1)
theorem sim_refs_Find_1 (enc0 : (List UInt8)) (v1 : (List UInt8)) (r : Bool) (h : g_refs_Find_1 enc0 v1 = some r) : Fun Try.prog 133 [.val (sV enc0), .cptr ([.val (sV v1)])] (.val (.bool r)) := by
  refine Fun.of_bodyQ Try.func133 rfl (by simp [Try.ntmps133]) ?_
  rw [Try.ntmps133, TT.res_133]
  refine QW.view (s' := ⟨tab [(0, pS enc0), (1, .d (.cptr ([.val (sV v1)])))], tabH [], 0, []⟩) (View.init (by rfl)) zL ?_
  unfold g_refs_Find_1 at h
  refine sR ?_
  refine xz 3 (pB false) ?_
  refine sR ?_
  refine xs 4 rfl (sf_ldC (d := .val (sV v1)) rfl TT.tyA_9 rfl (LdC.one) ?_)
  refine xm 5 (pS enc0) ?_
  obtain ⟨x_1, hx_2, h⟩ := bO h
  refine xs 6 rfl (sf_call rfl rfl TT.enters_75 rfl (sim_refs_Match v1 enc0 _ hx_2) ?_)
  refine xz 3 (pB x_1) ?_
  refine QW.ret zL ?_
  obtain rfl := sO h
  exact Ends.one (.inr rfl) rfl (ResIs.tmp rfl) rfl rfl
noncomputable def g_refs_Find (ref0 : (List UInt8)) (l1 : (List (List UInt8))) : Option ((List UInt8) × Bool) :=
    ((g_slices_IndexFunc_string_string l1 (fun y0 => g_refs_Find_1 y0 ref0)).bind fun (x_1 : Int) =>
    (bif (decide (x_1 < (0 : Int))) then
    some (([] : List UInt8), false)
    else
    gO (0 ≤ x_1 ∧ x_1 < (l1.length : Int)) (
    some ((idx l1 x_1), true))))
theorem sim_refs_Find (ref0 : (List UInt8)) (l1 : (List (List UInt8))) (r : ((List UInt8) × Bool)) (h : g_refs_Find ref0 l1 = some r) : Fun Try.prog 71 [.val (sV ref0), .slice (l1.map eS)] (.tuple [.val (sV (r.1)), .val (.bool (r.2))]) := by
  refine Fun.of_bodyQ Try.func71 rfl (by simp [Try.ntmps71]) ?_
  rw [Try.ntmps71, TT.res_71]
  refine QW.view (s' := ⟨tab [(0, pS ref0), (1, .d (.slice (l1.map eS)))], tabH [], 0, []⟩) (View.init (by rfl)) zL ?_
  unfold g_refs_Find at h
  refine sR ?_
  refine XK.fz (some 2) rfl rfl (sf_boxF (ds := [.val (sV ref0)]) rfl rfl rfl rfl rfl ?_)
  refine xa 4 (pS ([] : List UInt8)) ?_
  refine xz 5 (pB false) ?_
  refine sR ?_
  refine xm 7 (.d (.slice (l1.map eS))) ?_
  refine xs 8 rfl (sf_func rfl rfl ?_)
  obtain ⟨x_1, hx_2, h⟩ := bO h
  refine xs 9 rfl (sf_call rfl rfl TT.enters_132 rfl (sim_slices_IndexFunc_string_string l1 (fun y0 => g_refs_Find_1 y0 ref0) 133 [.cptr ([.val (sV ref0)])] TT.enters_133 (fun y0 _ h => sim_refs_Find_1 y0 ref0 _ h) _ hx_2) ?_)
  refine xz 6 (pI x_1) ?_
  refine QW.seq ?_
  refine sR ?_
  refine xm 10 (pI x_1) ?_
  refine xs 11 rfl (sf_lss (a := x_1) (b := (0 : Int)) rfl rfl rfl ?_)
  refine XK.nz ?_
  refine QW.cond (t := (decide (x_1 < (0 : Int)))) rfl zL (fun hb_3 => ?_) (fun hb_3 => ?_)
  · replace h := bT h hb_3
    refine sR ?_
    refine xa 4 (pS ([] : List UInt8)) ?_
    refine xz 5 (pB false) ?_
    refine QW.ret zL (thR ?_)
    obtain rfl := sO h
    exact Ends.more (.inr rfl) rfl (ps := [pS ([] : List UInt8), pB false]) (And.intro (ResIs.tmp rfl) (And.intro (ResIs.tmp rfl) trivial)) rfl rfl
  · replace h := bF h hb_3
    refine QW.skip zL (nrm ?_)
    refine sR ?_
    refine xm 12 (.d (.slice (l1.map eS))) ?_
    refine xm 13 (pI x_1) ?_
    obtain ⟨c_4, h⟩ := gO_get h
    refine xs 14 rfl (sf_idxA (l := l1) (i := x_1) rfl TT.slcA_62 lay_S rfl rfl c_4 ?_)
    refine xs 15 rfl (sf_ldC (d := .val (sV (idx l1 x_1))) rfl TT.tyA_9 rfl (LdC.one) ?_)
    refine xa 4 (pS (idx l1 x_1)) ?_
    refine xz 5 (pB true) ?_
    refine QW.ret zL ?_
    obtain rfl := sO h
    exact Ends.more (.inr rfl) rfl (ps := [pS (idx l1 x_1), pB true]) (And.intro (ResIs.tmp rfl) (And.intro (ResIs.tmp rfl) trivial)) rfl rfl
inductive C_refs_Clash where
  | S
  | L1 (v5 : (List (Arr 32 UInt8))) (v13 : Int)
  | L2 (v5_5 : (List (Arr 32 UInt8))) (v6_4 : Int) (v7_4 : (List UInt8)) (v13_5 : Int) (v20_4 : (List (Arr 32 UInt8))) (v21_4 : Int) (v22_3 : Int) (v8_6 : (Arr 32 UInt8))
noncomputable def step_refs_Clash (l0 : (List (List UInt8))) : C_refs_Clash → Option (C_refs_Clash ⊕ (Int × Int × Bool))
  | .S =>
    some (.inl (.L1 ([] : (List (Arr 32 UInt8))) (0)))
  | .L1 v5 v13 =>
    (bif (decide (v13 < (l0.length : Int))) then
    gO (0 ≤ v13 ∧ v13 < (l0.length : Int)) (
    ((g_sum_Of (idx l0 v13)).bind fun (x_4 : (Arr 32 UInt8)) =>
    some (.inl (.L2 v5 v13 (idx l0 v13) v13 v5 (v5.length : Int) (0) x_4))))
    else
    some (.inr (0, 0, false)))
  | .L2 v5_5 v6_4 v7_4 v13_5 v20_4 v21_4 v22_3 v8_6 =>
    (bif (decide (v22_3 < v21_4)) then
    gO (0 ≤ v22_3 ∧ v22_3 < (v20_4.length : Int)) (
    gO ((v8_6.1 == (idx v20_4 v22_3).1) = true → 0 ≤ v22_3 ∧ v22_3 < (l0.length : Int)) (
    (bif ((v8_6.1 == (idx v20_4 v22_3).1) && (!((idx l0 v22_3) == v7_4))) then
    some (.inr (v22_3, v6_4, true))
    else
    gO (inI (v22_3 + (1 : Int))) (
    some (.inl (.L2 v5_5 v6_4 v7_4 v13_5 v20_4 v21_4 (v22_3 + (1 : Int)) v8_6))))))
    else
    gO ((v5_5.length + ([v8_6] : List (Arr 32 UInt8)).length) * 32 ≤ 140737488355328) (
    gO (inI (v13_5 + (1 : Int))) (
    some (.inl (.L1 (v5_5 ++ ([v8_6] : List (Arr 32 UInt8))) (v13_5 + (1 : Int)))))))
noncomputable def g_refs_Clash (l0 : (List (List UInt8))) : Option (Int × Int × Bool) := theC (step_refs_Clash l0) .S
theorem sim_refs_Clash (l0 : (List (List UInt8))) (r : (Int × Int × Bool)) (h : g_refs_Clash l0 = some r) : Fun Try.prog 67 [.slice (l0.map eS)] (.tuple [.val (.int .i64 (r.1)), .val (.int .i64 (r.2.1)), .val (.bool (r.2.2))]) := by
  refine Fun.of_bodyQ Try.func67 rfl (by simp [Try.ntmps67]) ?_
  rw [Try.ntmps67, TT.res_67]
  refine QW.view (s' := ⟨tab [(0, .d (.slice (l0.map eS)))], tabH [], 0, []⟩) (View.init (by rfl)) zL ?_
  replace h := theC_get h
  obtain ⟨_, h⟩ := h
  obtain ⟨k_0, rfl, h9⟩ := run_succ h; replace h := h9; clear h9; rw [step_refs_Clash] at h
  refine sR ?_
  refine xa 2 (pI (0)) ?_
  refine xa 3 (pI (0)) ?_
  refine xz 4 (pB false) ?_
  refine sR ?_
  refine xz 5 (.full (([] : (List (Arr 32 UInt8))).map (eA byteD))) ?_
  refine QW.seq ?_
  refine sR ?_
  refine xm 11 (.d (.slice (l0.map eS))) ?_
  refine xs 12 rfl (sf_lenL (en := eS) (l := l0) rfl TT.under_62 rfl ?_)
  refine xm 13 (pI (0)) ?_
  refine XK.nz ?_
  refine QW.block ?_
  refine QW.loop (fun k σ => ∃ v5 : (List (Arr 32 UInt8)), ∃ v13 : Int, k ≤ k_0 ∧ run (step_refs_Clash l0) k (.L1 v5 v13) = some r ∧ σ = ⟨tab [(0, .d (.slice (l0.map eS))), (5, .own 0 (v5.map (eA byteD))), (11, .d (.slice (l0.map eS))), (12, pI (l0.length : Int)), (13, pI v13)], tabH [.spare 32 v5.length], 1, []⟩) k_0 zL ⟨⟨tab [(0, .d (.slice (l0.map eS))), (5, .own 0 (([] : (List (Arr 32 UInt8))).map (eA byteD))), (11, .d (.slice (l0.map eS))), (12, pI (l0.length : Int)), (13, pI (0))], tabH [.spare 32 ([] : (List (Arr 32 UInt8))).length], 1, []⟩, View.trans (View.buf 5 32 rfl zL) (View.mk 1 [0] _ _ _ rfl rfl (by decide) (iC (iC (iC (iC (iC trivial))))) (And.intro rfl trivial) rfl zL rfl), ([] : (List (Arr 32 UInt8))), 0, Nat.le_refl _, jG h, rfl⟩ ?_
  rintro k_1s _ ⟨v5, v13, k_1h, h, rfl⟩
  obtain ⟨k_1, rfl, h9⟩ := run_succ h; replace h := h9; clear h9; rw [step_refs_Clash] at h
  refine sR ?_
  refine xs 14 rfl (sf_lss (a := v13) (b := (l0.length : Int)) rfl rfl rfl ?_)
  refine XK.nz ?_
  refine QW.seq ?_
  refine QW.cond (t := (decide (v13 < (l0.length : Int)))) rfl zL (fun hb_2 => ?_) (fun hb_2 => ?_)
  · replace h := bGT h hb_2
    refine QW.skip zL (nrm ?_)
    refine QW.seq ?_
    refine QW.block ?_
    refine sR ?_
    refine xm 15 (pI v13) ?_
    obtain ⟨c_3, h⟩ := gG h
    refine xs 16 rfl (sf_idxA (l := l0) (i := v13) rfl TT.slcA_62 lay_S rfl rfl c_3 ?_)
    refine xs 17 rfl (sf_ldC (d := .val (sV (idx l0 v13))) rfl TT.tyA_9 rfl (LdC.one) ?_)
    refine xa 6 (pI v13) ?_
    refine xz 7 (pS (idx l0 v13)) ?_
    refine sR ?_
    refine xm 18 (pS (idx l0 v13)) ?_
    obtain ⟨x_4, hx_5, h⟩ := bG h
    refine xs 19 rfl (sf_call rfl rfl TT.enters_129 rfl (sim_sum_Of (idx l0 v13) _ hx_5) ?_)
    refine xs 8 rfl (sf_alloc (l := (((Arr.rep 32 (0 : UInt8)).1.map byteD).map .d)) rfl TT.zeroA_35 rfl rfl ?_)
    refine XK.st none rfl rfl (sf_stV (l' := ((x_4.1.map byteD).map .d)) rfl TT.tyA_35 rfl rfl rfl rfl rfl (len_map2 _) (le_map2 _) (spl_same ((len_map2 _).trans (len_map2 _).symm)) ?_)
    refine XK.nz ?_
    refine QW.seq ?_
    refine sR ?_
    refine xm 20 (.own 0 (v5.map (eA byteD))) ?_
    refine xs 21 rfl (sf_lenL (en := (eA byteD)) (l := v5) rfl TT.under_153 rfl ?_)
    refine xm 22 (pI (0)) ?_
    refine XK.nz ?_
    refine QW.block ?_
    refine QW.loop (fun k σ => ∃ v5_5 : (List (Arr 32 UInt8)), ∃ v6_4 : Int, ∃ v7_4 : (List UInt8), ∃ v13_5 : Int, ∃ v20_4 : (List (Arr 32 UInt8)), ∃ v21_4 : Int, ∃ v22_3 : Int, ∃ v8_6 : (Arr 32 UInt8), k ≤ k_1 ∧ run (step_refs_Clash l0) k (.L2 v5_5 v6_4 v7_4 v13_5 v20_4 v21_4 v22_3 v8_6) = some r ∧ σ = ⟨tab [(0, .d (.slice (l0.map eS))), (5, .own 0 (v5_5.map (eA byteD))), (6, pI v6_4), (7, pS v7_4), (8, .vptr 1 0), (11, .d (.slice (l0.map eS))), (12, pI (l0.length : Int)), (13, pI v13_5), (20, .d (.slice (v20_4.map (eA byteD)))), (21, pI v21_4), (22, pI v22_3)], tabH [.spare 32 v5_5.length, .var ((v8_6.1.map byteD).map .d)], 2, []⟩) k_1 zL ⟨⟨tab [(0, .d (.slice (l0.map eS))), (5, .own 0 (v5.map (eA byteD))), (6, pI v13), (7, pS (idx l0 v13)), (8, .vptr 1 0), (11, .d (.slice (l0.map eS))), (12, pI (l0.length : Int)), (13, pI v13), (20, .d (.slice (v5.map (eA byteD)))), (21, pI (v5.length : Int)), (22, pI (0))], tabH [.spare 32 v5.length, .var ((x_4.1.map byteD).map .d)], 2, []⟩, View.mk 2 [0, 1] _ _ _ rfl rfl (by decide) (iC (iC (iC (iC (iC (iC (iC (iC (And.intro (Imp.toD rfl) (iC (iC trivial))))))))))) (And.intro rfl (And.intro (by simp only [atH1, rowC, PV.res_d]; rfl) trivial)) rfl zL rfl, v5, v13, (idx l0 v13), v13, v5, (v5.length : Int), 0, x_4, Nat.le_refl _, jG h, rfl⟩ ?_
    rintro k_6s _ ⟨v5_5, v6_4, v7_4, v13_5, v20_4, v21_4, v22_3, v8_6, k_6h, h, rfl⟩
    obtain ⟨k_6, rfl, h9⟩ := run_succ h; replace h := h9; clear h9; rw [step_refs_Clash] at h
    refine sR ?_
    refine xs 23 rfl (sf_lss (a := v22_3) (b := v21_4) rfl rfl rfl ?_)
    refine XK.nz ?_
    refine QW.seq ?_
    refine QW.cond (t := (decide (v22_3 < v21_4))) rfl zL (fun hb_7 => ?_) (fun hb_7 => ?_)
    · replace h := bGT h hb_7
      refine QW.skip zL (nrm ?_)
      refine QW.seq ?_
      refine QW.block ?_
      refine sR ?_
      refine xm 24 (pI v22_3) ?_
      obtain ⟨c_8, h⟩ := gG h
      refine xs 25 rfl (sf_idxA (l := v20_4) (i := v22_3) rfl TT.slcA_153 lay_A rfl rfl c_8 ?_)
      refine xs 26 rfl (sf_ldC (d := .agg ((idx v20_4 v22_3).1.map byteD)) rfl TT.tyA_35 rfl (ldc_all (by rw [List.length_map, (idx v20_4 v22_3).2])) ?_)
      refine xs 10 rfl (sf_alloc (l := (((Arr.rep 32 (0 : UInt8)).1.map byteD).map .d)) rfl TT.zeroA_35 rfl rfl ?_)
      refine xa 9 (pI v22_3) ?_
      refine XK.st none rfl rfl (sf_stV (l' := (((idx v20_4 v22_3).1.map byteD).map .d)) rfl TT.tyA_35 rfl rfl rfl rfl rfl (len_map2 _) (le_map2 _) (spl_same ((len_map2 _).trans (len_map2 _).symm)) ?_)
      refine XK.nz ?_
      refine sR ?_
      refine XK.as (some 27) rfl rfl (sf_ldV (v := .agg ((v8_6.1.map byteD).map .d)) rfl TT.tyA_35 rfl rfl (ldv_all (by decide)) ⟨.d (.agg (v8_6.1.map byteD)), imp_arr, ?_⟩)
      refine XK.as (some 28) rfl rfl (sf_ldV (v := .agg (((idx v20_4 v22_3).1.map byteD).map .d)) rfl TT.tyA_35 rfl rfl (ldv_all (by decide)) ⟨.d (.agg ((idx v20_4 v22_3).1.map byteD)), imp_arr, ?_⟩)
      refine xs 29 rfl (sf_arreq (p := v8_6) (q := (idx v20_4 v22_3)) rfl TT.arrB_35_32 rfl rfl ?_)
      refine xm 30 (pB (v8_6.1 == (idx v20_4 v22_3).1)) ?_
      refine xg 31 (.d (.slice (l0.map eS))) rfl rfl (fun hg => sf_move (v := .d (.slice (l0.map eS))) rfl rfl g3) ?_
      refine xg 32 (pI v22_3) rfl rfl (fun hg => sf_move (v := pI v22_3) rfl rfl g3) ?_
      obtain ⟨c_9, h⟩ := gG h
      refine xg 33 (.d (.cptr ([.val (sV (idx l0 v22_3))]))) rfl rfl (fun hg => sf_idxA (l := l0) (i := v22_3) rfl TT.slcA_62 lay_S rfl rfl (c_9 (eqB hg)) g3) ?_
      refine xg 34 (pS (idx l0 v22_3)) rfl rfl (fun hg => sf_ldC (d := .val (sV (idx l0 v22_3))) rfl TT.tyA_9 rfl (LdC.one) g3) ?_
      refine xg 35 (pS v7_4) rfl rfl (fun hg => sf_move (v := pS v7_4) rfl rfl g3) ?_
      refine xg 36 (pB (!((idx l0 v22_3) == v7_4))) rfl rfl (fun hg => sf_sne (a := (idx l0 v22_3)) (b := v7_4) rfl rfl rfl g3) ?_
      refine xs 37 rfl (sf_pickA rfl rfl rfl rfl (fun hb => by rw [hb]; rfl) (fun _ => rfl) ?_)
      refine XK.nz ?_
      refine QW.cond (t := ((v8_6.1 == (idx v20_4 v22_3).1) && (!((idx l0 v22_3) == v7_4)))) rfl zL (fun hb_10 => ?_) (fun hb_10 => ?_)
      · replace h := bGT h hb_10
        refine sR ?_
        refine xm 38 (pI v22_3) ?_
        refine xm 39 (pI v6_4) ?_
        refine xa 2 (pI v22_3) ?_
        refine xa 3 (pI v6_4) ?_
        refine xz 4 (pB true) ?_
        refine QW.ret zL (blR (thR (thR (blR (thR (blR (thR (thR (blR (thR ?_))))))))))
        obtain rfl := sG h
        exact Ends.more (.inr rfl) rfl (ps := [pI v22_3, pI v6_4, pB true]) (And.intro (ResIs.tmp rfl) (And.intro (ResIs.tmp rfl) (And.intro (ResIs.tmp rfl) trivial))) rfl rfl
      · replace h := bGF h hb_10
        refine QW.skip zL (blN (nrm ?_))
        refine rG ?_
        obtain ⟨c_11, h⟩ := gG h
        refine xs 40 rfl (sf_add (a := v22_3) (b := (1 : Int)) rfl rfl rfl c_11 ?_)
        refine xm 22 (pI (v22_3 + (1 : Int))) ?_
        refine XK.nz ?_
        exact ⟨k_6, by omega, ⟨tab [(0, .d (.slice (l0.map eS))), (5, .own 0 (v5_5.map (eA byteD))), (6, pI v6_4), (7, pS v7_4), (8, .vptr 1 0), (11, .d (.slice (l0.map eS))), (12, pI (l0.length : Int)), (13, pI v13_5), (20, .d (.slice (v20_4.map (eA byteD)))), (21, pI v21_4), (22, pI (v22_3 + (1 : Int)))], tabH [.spare 32 v5_5.length, .var ((v8_6.1.map byteD).map .d)], 2, []⟩, View.mk 2 [0, 1] _ _ _ rfl rfl (by decide) (iC (iC (iC (iC (iC (iC (iC (iC (iC (iC (iC trivial))))))))))) (And.intro rfl (And.intro (by simp only [atH1, rowC, PV.res_d]; rfl) trivial)) rfl zL rfl, v5_5, v6_4, v7_4, v13_5, v20_4, v21_4, (v22_3 + (1 : Int)), v8_6, by omega, jG h, rfl⟩
    · replace h := bGF h hb_7
      refine QW.exit zL (thX (thX (exE (nrm ?_))))
      refine rG ?_
      refine xm 41 (.own 0 (v5_5.map (eA byteD))) ?_
      refine XK.as (some 42) rfl rfl (sf_ldV (v := .agg ((v8_6.1.map byteD).map .d)) rfl TT.tyA_35 rfl rfl (ldv_all (by decide)) ⟨.d (.agg (v8_6.1.map byteD)), imp_arr, ?_⟩)
      refine xs 43 rfl (sf_row (en := (eA byteD)) (l := ([v8_6] : List (Arr 32 UInt8))) rfl TT.rowA_153 lay_A rfl rfl (by decide) (by simp [solids, partsP, evP, ofVal, PV.solid, putS_at, tab, unS, unT, unC, asCond, Value.oneCell']) ?_)
      obtain ⟨c_12, h⟩ := gG h
      refine xs 44 rfl (sf_appO (en := (eA byteD)) (l := v5_5) (l2 := ([v8_6] : List (Arr 32 UInt8))) rfl TT.rowA_153 TT.under_153 rfl lay_A rfl rfl rfl c_12 (by decide) ?_)
      refine xa 5 (.own 2 ((v5_5 ++ ([v8_6] : List (Arr 32 UInt8))).map (eA byteD))) ?_
      refine XK.nil (blN (nrm ?_))
      refine rG ?_
      obtain ⟨c_13, h⟩ := gG h
      refine xs 45 rfl (sf_add (a := v13_5) (b := (1 : Int)) rfl rfl rfl c_13 ?_)
      refine xm 13 (pI (v13_5 + (1 : Int))) ?_
      refine XK.nz ?_
      exact ⟨k_6, by omega, ⟨tab [(0, .d (.slice (l0.map eS))), (5, .own 0 ((v5_5 ++ ([v8_6] : List (Arr 32 UInt8))).map (eA byteD))), (11, .d (.slice (l0.map eS))), (12, pI (l0.length : Int)), (13, pI (v13_5 + (1 : Int)))], tabH [.spare 32 (v5_5 ++ ([v8_6] : List (Arr 32 UInt8))).length], 1, []⟩, View.mk 1 [2] _ _ _ rfl rfl (by decide) (iC (iC (iC (iC (iC trivial))))) (And.intro rfl trivial) rfl zL rfl, (v5_5 ++ ([v8_6] : List (Arr 32 UInt8))), (v13_5 + (1 : Int)), by omega, jG h, rfl⟩
  · replace h := bGF h hb_2
    refine QW.exit zL (thX (thX (exE (nrm ?_))))
    refine sR ?_
    refine xa 2 (pI (0)) ?_
    refine xa 3 (pI (0)) ?_
    refine xz 4 (pB false) ?_
    refine QW.ret zL ?_
    obtain rfl := sG h
    exact Ends.more (.inr rfl) rfl (ps := [pI (0), pI (0), pB false]) (And.intro (ResIs.tmp rfl) (And.intro (ResIs.tmp rfl) (And.intro (ResIs.tmp rfl) trivial))) rfl rfl
noncomputable def g_refs_Kind (ref0 : (List UInt8)) : Option Int :=
    (bif (ref0 == ([] : List UInt8)) then
    some (0)
    else
    ((g_node_Reference ref0).bind fun (x_2 : Bool) =>
    (bif (!x_2) then
    some (3)
    else
    (bif (decide ((ref0.length : Int) = (32 : Int))) then
    some (1)
    else
    some (2)))))
theorem sim_refs_Kind (ref0 : (List UInt8)) (r : Int) (h : g_refs_Kind ref0 = some r) : Fun Try.prog 64 [.val (sV ref0)] (.val (.int .i64 r)) := by
  refine Fun.of_bodyQ Try.func64 rfl (by simp [Try.ntmps64]) ?_
  rw [Try.ntmps64, TT.res_64]
  refine QW.view (s' := ⟨tab [(0, pS ref0)], tabH [], 0, []⟩) (View.init (by rfl)) zL ?_
  unfold g_refs_Kind at h
  refine sR ?_
  refine xz 2 (pI (0)) ?_
  refine QW.seq ?_
  refine QW.block ?_
  refine sR ?_
  refine xm 4 (pS ref0) ?_
  refine xs 5 rfl (sf_seq (a := ref0) (b := ([] : List UInt8)) rfl rfl rfl ?_)
  refine xz 3 (pB (ref0 == ([] : List UInt8))) ?_
  refine QW.cond (t := (ref0 == ([] : List UInt8))) rfl zL (fun hb_1 => ?_) (fun hb_1 => ?_)
  · replace h := bT h hb_1
    refine sR ?_
    refine xz 2 (pI (0)) ?_
    refine QW.ret zL (blR (thR ?_))
    obtain rfl := sO h
    exact Ends.one (.inr rfl) rfl (ResIs.tmp rfl) rfl rfl
  · replace h := bF h hb_1
    refine sR ?_
    refine xm 7 (pS ref0) ?_
    obtain ⟨x_2, hx_3, h⟩ := bO h
    refine xs 8 rfl (sf_call rfl rfl TT.enters_47 rfl (sim_node_Reference ref0 _ hx_3) ?_)
    refine xs 9 rfl (sf_not rfl rfl ?_)
    refine xz 6 (pB (!x_2)) ?_
    refine QW.cond (t := (!x_2)) rfl zL (fun hb_4 => ?_) (fun hb_4 => ?_)
    · replace h := bT h hb_4
      refine sR ?_
      refine xz 2 (pI (3)) ?_
      refine QW.ret zL (blR (thR ?_))
      obtain rfl := sO h
      exact Ends.one (.inr rfl) rfl (ResIs.tmp rfl) rfl rfl
    · replace h := bF h hb_4
      refine sR ?_
      refine xm 11 (pS ref0) ?_
      refine xs 12 rfl (sf_lenS (l := ref0) rfl TT.under_9 rfl ?_)
      refine xs 13 rfl (sf_eq (a := (ref0.length : Int)) (b := (32 : Int)) rfl rfl rfl ?_)
      refine xz 10 (pB (decide ((ref0.length : Int) = (32 : Int)))) ?_
      refine QW.cond (t := (decide ((ref0.length : Int) = (32 : Int)))) rfl zL (fun hb_5 => ?_) (fun hb_5 => ?_)
      · replace h := bT h hb_5
        refine sR ?_
        refine xz 2 (pI (1)) ?_
        refine QW.ret zL (blR (thR ?_))
        obtain rfl := sO h
        exact Ends.one (.inr rfl) rfl (ResIs.tmp rfl) rfl rfl
      · replace h := bF h hb_5
        refine QW.skip zL (blN (nrm ?_))
        refine sR ?_
        refine xz 2 (pI (2)) ?_
        refine QW.ret zL ?_
        obtain rfl := sO h
        exact Ends.one (.inr rfl) rfl (ResIs.tmp rfl) rfl rfl
inductive C_refs_All where
  | S
  | L1 (v5 : (List (List UInt8))) (v18_2 : (List (List UInt8))) (v19_2 : Int) (v20 : Int)
noncomputable def step_refs_All (self : (List UInt8) → Option (List (List UInt8))) (enc0 : (List UInt8)) : C_refs_All → Option (C_refs_All ⊕ (List (List UInt8)))
  | .S =>
    ((g_node_Get enc0).bind fun (x_1 : (Node × Int)) =>
    (bif (!decide ((x_1.2) = (0 : Int))) then
    some (.inr ([] : (List (List UInt8))))
    else
    ((g_node_Kids (x_1.1)).bind fun (x_4 : (List (List UInt8))) =>
    some (.inl (.L1 ([enc0] : List (List UInt8)) x_4 (x_4.length : Int) (0))))))
  | .L1 v5 v18_2 v19_2 v20 =>
    (bif (decide (v20 < v19_2)) then
    gO (0 ≤ v20 ∧ v20 < (v18_2.length : Int)) (
    ((g_refs_Kind (idx v18_2 v20)).bind fun (x_9 : Int) =>
    (bif (decide (x_9 = (2 : Int))) then
    ((self (idx v18_2 v20)).bind fun (x_12 : (List (List UInt8))) =>
    gO ((v5.length + x_12.length) * 16 ≤ 140737488355328) (
    gO (inI (v20 + (1 : Int))) (
    some (.inl (.L1 (v5 ++ x_12) v18_2 v19_2 (v20 + (1 : Int)))))))
    else
    gO (inI (v20 + (1 : Int))) (
    some (.inl (.L1 v5 v18_2 v19_2 (v20 + (1 : Int))))))))
    else
    some (.inr v5))
noncomputable def gs_refs_All (self : (List UInt8) → Option (List (List UInt8))) (enc0 : (List UInt8)) : Option (List (List UInt8)) := theC (step_refs_All self enc0) .S
theorem sims_refs_All (self : (List UInt8) → Option (List (List UInt8))) (hself : ∀ (y0 : (List UInt8)) (rr : (List (List UInt8))), self y0 = some rr → Fun Try.prog 65 [.val (sV y0)] (.slice (rr.map eS))) (enc0 : (List UInt8)) (r : (List (List UInt8))) (h : gs_refs_All self enc0 = some r) : Fun Try.prog 65 [.val (sV enc0)] (.slice (r.map eS)) := by
  refine Fun.of_bodyQ Try.func65 rfl (by simp [Try.ntmps65]) ?_
  rw [Try.ntmps65, TT.res_65]
  refine QW.view (s' := ⟨tab [(0, pS enc0)], tabH [], 0, []⟩) (View.init (by rfl)) zL ?_
  replace h := theC_get h
  obtain ⟨_, h⟩ := h
  obtain ⟨k_0, rfl, h9⟩ := run_succ h; replace h := h9; clear h9; rw [step_refs_All] at h
  refine sR ?_
  refine xz 2 (.full (([] : (List (List UInt8))).map eS)) ?_
  refine sR ?_
  refine xm 9 (pS enc0) ?_
  obtain ⟨x_1, hx_2, h⟩ := bG h
  refine xs 10 rfl (sf_call rfl rfl TT.enters_37 rfl (sim_node_Get enc0 _ hx_2) ?_)
  refine xm 8 (.d (.tuple [.agg (cNode (x_1.1)), .val (.int .i64 (x_1.2))])) ?_
  refine xs 11 rfl (sf_extract rfl rfl rfl ?_)
  refine xs 12 rfl (sf_extract rfl rfl rfl ?_)
  refine xs 3 rfl (sf_alloc (l := (([pI (0), .full (([] : (List UInt8)).map byteD), pS ([] : List UInt8)]) ++ (((Arr.rep 16 ([] : (List UInt8))).1.map eS).map PV.d))) rfl TT.zeroA_52 rfl rfl ?_)
  refine XK.st none rfl rfl (sf_stV (c := (([pI ((x_1.1).fKind), .d (.slice (((x_1.1).fPath).map byteD)), pS ((x_1.1).fValue)]) ++ ((((x_1.1).fKids).1.map eS).map PV.d))) (l' := (([pI ((x_1.1).fKind), .d (.slice (((x_1.1).fPath).map byteD)), pS ((x_1.1).fValue)]) ++ ((((x_1.1).fKids).1.map eS).map PV.d))) rfl TT.tyA_52 rfl rfl rfl rfl (show (cNode (x_1.1)).map PV.d = _ by simp only [cNode, List.map_append]; rfl) (len_app (A := [pI ((x_1.1).fKind), .d (.slice (((x_1.1).fPath).map byteD)), pS ((x_1.1).fValue)]) (b := 16) rfl (len_map2 _) rfl) (le_of_len (len_app (A := [pI (0), .full (([] : (List UInt8)).map byteD), pS ([] : List UInt8)]) (b := 16) rfl (len_map2 _) rfl) bL) (spl_same ((len_app (A := [pI (0), .full (([] : (List UInt8)).map byteD), pS ([] : List UInt8)]) (b := 16) rfl (len_map2 _) rfl).trans (len_app (A := [pI ((x_1.1).fKind), .d (.slice (((x_1.1).fPath).map byteD)), pS ((x_1.1).fValue)]) (b := 16) rfl (len_map2 _) rfl).symm)) ?_)
  refine xz 4 (pI (x_1.2)) ?_
  refine QW.seq ?_
  refine sR ?_
  refine xm 13 (pI (x_1.2)) ?_
  refine xs 14 rfl (sf_ne (a := (x_1.2)) (b := (0 : Int)) rfl rfl rfl ?_)
  refine XK.nz ?_
  refine QW.cond (t := (!decide ((x_1.2) = (0 : Int)))) rfl zL (fun hb_3 => ?_) (fun hb_3 => ?_)
  · replace h := bGT h hb_3
    refine sR ?_
    refine xz 2 (.full (([] : (List (List UInt8))).map eS)) ?_
    refine QW.ret zL (thR ?_)
    obtain rfl := sG h
    exact Ends.one (.inr rfl) rfl (ResIs.tmp rfl) rfl rfl
  · replace h := bGF h hb_3
    refine QW.skip zL (nrm ?_)
    refine sR ?_
    refine xm 15 (pS enc0) ?_
    refine XK.so (some 16) rfl rfl (so_rowO (en := eS) (l := ([enc0] : List (List UInt8))) rfl TT.rowA_62 lay_S rfl rfl (by decide) (by simp [solids, partsP, evP, ofVal, PV.solid, putS_at, tab, unS, unT, unC, asCond, Value.oneCell']) ?_)
    refine xz 5 (.own 1 (([enc0] : List (List UInt8)).map eS)) ?_
    refine QW.seq ?_
    refine sR ?_
    refine XK.as (some 17) rfl rfl (sf_ldV (v := .agg (([pI ((x_1.1).fKind), .d (.slice (((x_1.1).fPath).map byteD)), pS ((x_1.1).fValue)]) ++ ((((x_1.1).fKids).1.map eS).map PV.d))) rfl TT.tyA_52 rfl rfl (ldv_whole (len_app (A := [pI ((x_1.1).fKind), .d (.slice (((x_1.1).fPath).map byteD)), pS ((x_1.1).fValue)]) (b := 16) rfl (len_map2 _) rfl) (Nat.succ_pos _)) ⟨.d (.agg (cNode (x_1.1))), (Imp.toD (toD_agg (toDs_app rfl toDs_map))), ?_⟩)
    obtain ⟨x_4, hx_5, h⟩ := bG h
    refine xs 18 rfl (sf_call rfl rfl TT.enters_45 rfl (sim_node_Kids (x_1.1) _ hx_5) ?_)
    refine xs 19 rfl (sf_lenL (en := eS) (l := x_4) rfl TT.under_62 rfl ?_)
    refine xm 20 (pI (0)) ?_
    refine XK.nz ?_
    refine QW.block ?_
    refine QW.loop (fun k σ => ∃ v5 : (List (List UInt8)), ∃ v18_2 : (List (List UInt8)), ∃ v19_2 : Int, ∃ v20 : Int, k ≤ k_0 ∧ run (step_refs_All self enc0) k (.L1 v5 v18_2 v19_2 v20) = some r ∧ σ = ⟨tab [(5, .own 0 (v5.map eS)), (18, .d (.slice (v18_2.map eS))), (19, pI v19_2), (20, pI v20)], tabH [.spare 1 v5.length], 1, []⟩) k_0 zL ⟨⟨tab [(5, .own 0 (([enc0] : List (List UInt8)).map eS)), (18, .d (.slice (x_4.map eS))), (19, pI (x_4.length : Int)), (20, pI (0))], tabH [.spare 1 ([enc0] : List (List UInt8)).length], 1, []⟩, View.mk 1 [1] _ _ _ rfl rfl (by decide) (iC (iC (iC (iC trivial)))) (And.intro rfl trivial) rfl zL rfl, ([enc0] : List (List UInt8)), x_4, (x_4.length : Int), 0, Nat.le_refl _, jG h, rfl⟩ ?_
    rintro k_6s _ ⟨v5, v18_2, v19_2, v20, k_6h, h, rfl⟩
    obtain ⟨k_6, rfl, h9⟩ := run_succ h; replace h := h9; clear h9; rw [step_refs_All] at h
    refine sR ?_
    refine xs 21 rfl (sf_lss (a := v20) (b := v19_2) rfl rfl rfl ?_)
    refine XK.nz ?_
    refine QW.seq ?_
    refine QW.cond (t := (decide (v20 < v19_2))) rfl zL (fun hb_7 => ?_) (fun hb_7 => ?_)
    · replace h := bGT h hb_7
      refine QW.skip zL (nrm ?_)
      refine QW.seq ?_
      refine QW.block ?_
      refine sR ?_
      obtain ⟨c_8, h⟩ := gG h
      refine xs 22 rfl (sf_idxA (l := v18_2) (i := v20) rfl TT.slcA_62 lay_S rfl rfl c_8 ?_)
      refine xs 23 rfl (sf_ldC (d := .val (sV (idx v18_2 v20))) rfl TT.tyA_9 rfl (LdC.one) ?_)
      refine xz 7 (pS (idx v18_2 v20)) ?_
      refine sR ?_
      refine xm 24 (pS (idx v18_2 v20)) ?_
      obtain ⟨x_9, hx_10, h⟩ := bG h
      refine xs 25 rfl (sf_call rfl rfl TT.enters_64 rfl (sim_refs_Kind (idx v18_2 v20) _ hx_10) ?_)
      refine xs 26 rfl (sf_eq (a := x_9) (b := (2 : Int)) rfl rfl rfl ?_)
      refine XK.nz ?_
      refine QW.cond (t := (decide (x_9 = (2 : Int)))) rfl zL (fun hb_11 => ?_) (fun hb_11 => ?_)
      · replace h := bGT h hb_11
        refine rG ?_
        refine xm 27 (.own 0 (v5.map eS)) ?_
        refine xm 28 (pS (idx v18_2 v20)) ?_
        obtain ⟨x_12, hx_13, h⟩ := bG h
        refine xs 29 rfl (sf_call rfl rfl TT.enters_65 rfl (hself (idx v18_2 v20) _ hx_13) ?_)
        obtain ⟨c_14, h⟩ := gG h
        refine xs 30 rfl (sf_appO (en := eS) (l := v5) (l2 := x_12) rfl TT.rowA_62 TT.under_62 rfl lay_S rfl rfl rfl c_14 (by decide) ?_)
        refine xa 5 (.own 1 ((v5 ++ x_12).map eS)) ?_
        refine XK.nil (blN (nrm ?_))
        refine rG ?_
        obtain ⟨c_15, h⟩ := gG h
        refine xs 31 rfl (sf_add (a := v20) (b := (1 : Int)) rfl rfl rfl c_15 ?_)
        refine xm 20 (pI (v20 + (1 : Int))) ?_
        refine XK.nz ?_
        exact ⟨k_6, by omega, ⟨tab [(5, .own 0 ((v5 ++ x_12).map eS)), (18, .d (.slice (v18_2.map eS))), (19, pI v19_2), (20, pI (v20 + (1 : Int)))], tabH [.spare 1 (v5 ++ x_12).length], 1, []⟩, View.mk 1 [1] _ _ _ rfl rfl (by decide) (iC (iC (iC (iC trivial)))) (And.intro rfl trivial) rfl zL rfl, (v5 ++ x_12), v18_2, v19_2, (v20 + (1 : Int)), by omega, jG h, rfl⟩
      · replace h := bGF h hb_11
        refine QW.skip zL (blN (nrm ?_))
        refine rG ?_
        obtain ⟨c_16, h⟩ := gG h
        refine xs 31 rfl (sf_add (a := v20) (b := (1 : Int)) rfl rfl rfl c_16 ?_)
        refine xm 20 (pI (v20 + (1 : Int))) ?_
        refine XK.nz ?_
        exact ⟨k_6, by omega, ⟨tab [(5, .own 0 (v5.map eS)), (18, .d (.slice (v18_2.map eS))), (19, pI v19_2), (20, pI (v20 + (1 : Int)))], tabH [.spare 1 v5.length], 1, []⟩, View.mk 1 [0] _ _ _ rfl rfl (by decide) (iC (iC (iC (iC trivial)))) (And.intro rfl trivial) rfl zL rfl, v5, v18_2, v19_2, (v20 + (1 : Int)), by omega, jG h, rfl⟩
    · replace h := bGF h hb_7
      refine QW.exit zL (thX (thX (exE (nrm ?_))))
      refine sR ?_
      refine xm 32 (.own 0 (v5.map eS)) ?_
      refine xz 2 (.own 0 (v5.map eS)) ?_
      refine QW.ret zL ?_
      obtain rfl := sG h
      exact Ends.one (.inr rfl) rfl (ResIs.tmp rfl) rfl rfl
noncomputable def rec_refs_All : Nat → (List UInt8) → Option (List (List UInt8))
  | 0 => fun _ => none
  | n + 1 => fun y0 => gs_refs_All (rec_refs_All n) y0
theorem simr_refs_All : ∀ (n : Nat) (y0 : (List UInt8)) (rr : (List (List UInt8))), rec_refs_All n y0 = some rr → Fun Try.prog 65 [.val (sV y0)] (.slice (rr.map eS))
  | 0, _, _, h => by cases h
  | n + 1, y0, rr, h => sims_refs_All (rec_refs_All n) (simr_refs_All n) y0 rr h
noncomputable def g_refs_All (y0 : (List UInt8)) : Option (List (List UInt8)) := theR (fun n => rec_refs_All n y0)
theorem sim_refs_All (y0 : (List UInt8)) (rr : (List (List UInt8))) (h : g_refs_All y0 = some rr) : Fun Try.prog 65 [.val (sV y0)] (.slice (rr.map eS)) := by
  obtain ⟨n, hn⟩ := theR_get h
  exact simr_refs_All n y0 rr hn
noncomputable def g_law07_awake  : Option Bool :=
    ((g_node_Leaf ([(1 : UInt8)] : List UInt8) ([97] : List UInt8)).bind fun (x_1 : Node) =>
    ((g_node_Put x_1).bind fun (x_3 : ((List UInt8) × Int)) =>
    ((g_node_Leaf ([(1 : UInt8)] : List UInt8) ([97, 32, 118, 97, 108, 117, 101, 32, 116, 104, 97, 116, 32, 105, 115, 32, 114, 97, 116, 104, 101, 114, 32, 97, 32, 108, 111, 110, 103, 32, 111, 110, 101] : List UInt8)).bind fun (x_5 : Node) =>
    ((g_node_Put x_5).bind fun (x_7 : ((List UInt8) × Int)) =>
    ((g_refs_Of (x_7.1)).bind fun (x_9 : (List UInt8)) =>
    ((g_refs_Find x_9 ([x_3.1, x_7.1] : List (List UInt8))).bind fun (x_11 : ((List UInt8) × Bool)) =>
    ((g_refs_Clash ([x_3.1, x_7.1, x_3.1] : List (List UInt8))).bind fun (x_13 : (Int × Int × Bool)) =>
    ((g_refs_Of (x_3.1)).bind fun (x_15 : (List UInt8)) =>
    ((bif ((x_15 == x_3.1) == true) then g_refs_Of (x_7.1) else some default).bind fun (x_17 : (List UInt8)) =>
    ((bif (((x_15 == x_3.1) && (decide ((x_17.length : Int) = (32 : Int)))) == true) then g_refs_Kind (x_3.1) else some default).bind fun (x_19 : Int) =>
    ((bif ((((x_15 == x_3.1) && (decide ((x_17.length : Int) = (32 : Int)))) && (decide (x_19 = (2 : Int)))) == true) then g_refs_Of (x_7.1) else some default).bind fun (x_21 : (List UInt8)) =>
    ((bif ((((x_15 == x_3.1) && (decide ((x_17.length : Int) = (32 : Int)))) && (decide (x_19 = (2 : Int)))) == true) then g_refs_Kind x_21 else some default).bind fun (x_23 : Int) =>
    ((bif (((((x_15 == x_3.1) && (decide ((x_17.length : Int) = (32 : Int)))) && (decide (x_19 = (2 : Int)))) && (decide (x_23 = (1 : Int)))) == true) then g_refs_Kind ([] : List UInt8) else some default).bind fun (x_25 : Int) =>
    ((bif ((((((x_15 == x_3.1) && (decide ((x_17.length : Int) = (32 : Int)))) && (decide (x_19 = (2 : Int)))) && (decide (x_23 = (1 : Int)))) && (decide (x_25 = (0 : Int)))) == true) then g_refs_Kind ([120] : List UInt8) else some default).bind fun (x_27 : Int) =>
    ((bif ((((((((((x_15 == x_3.1) && (decide ((x_17.length : Int) = (32 : Int)))) && (decide (x_19 = (2 : Int)))) && (decide (x_23 = (1 : Int)))) && (decide (x_25 = (0 : Int)))) && (decide (x_27 = (3 : Int)))) && (x_11.1 == x_7.1)) && x_11.2) && (!(x_13).2.2)) == true) then g_refs_All (x_3.1) else some default).bind fun (x_29 : (List (List UInt8))) =>
    some ((((((((((x_15 == x_3.1) && (decide ((x_17.length : Int) = (32 : Int)))) && (decide (x_19 = (2 : Int)))) && (decide (x_23 = (1 : Int)))) && (decide (x_25 = (0 : Int)))) && (decide (x_27 = (3 : Int)))) && (x_11.1 == x_7.1)) && x_11.2) && (!(x_13).2.2)) && (decide ((x_29.length : Int) = (1 : Int)))))))))))))))))))
theorem sim_law07_awake  (r : Bool) (h : g_law07_awake  = some r) : Fun Try.prog 63 [] (.val (.bool r)) := by
  refine Fun.of_bodyQ Try.func63 rfl (by simp [Try.ntmps63]) ?_
  rw [Try.ntmps63, TT.res_63]
  refine QW.view (s' := ⟨tab [], tabH [], 0, []⟩) (View.init (by rfl)) zL ?_
  unfold g_law07_awake at h
  refine sR ?_
  refine xz 0 (pB false) ?_
  refine sR ?_
  refine xs 11 rfl (sf_row (en := byteD) (l := ([(1 : UInt8)] : List UInt8)) rfl TT.rowA_49 lay_byte rfl rfl (by decide) (by simp [solids, partsP, evP, ofVal, PV.solid, putS_at, tab, unS, unT, unC, asCond, Value.oneCell']) ?_)
  obtain ⟨x_1, hx_2, h⟩ := bO h
  refine xs 12 rfl (sf_call rfl rfl TT.enters_41 rfl (sim_node_Leaf ([(1 : UInt8)] : List UInt8) ([97] : List UInt8) _ hx_2) ?_)
  obtain ⟨x_3, hx_4, h⟩ := bO h
  refine xs 13 rfl (sf_call rfl rfl TT.enters_34 rfl (sim_node_Put x_1 _ hx_4) ?_)
  refine xm 10 (.d (.tuple [.val (sV (x_3.1)), .val (.int .i64 (x_3.2))])) ?_
  refine xs 14 rfl (sf_extract rfl rfl rfl ?_)
  refine xs 15 rfl (sf_extract rfl rfl rfl ?_)
  refine xa 1 (pS (x_3.1)) ?_
  refine xz 2 (pI (x_3.2)) ?_
  refine sR ?_
  refine xs 17 rfl (sf_row (en := byteD) (l := ([(1 : UInt8)] : List UInt8)) rfl TT.rowA_49 lay_byte rfl rfl (by decide) (by simp [solids, partsP, evP, ofVal, PV.solid, putS_at, tab, unS, unT, unC, asCond, Value.oneCell']) ?_)
  obtain ⟨x_5, hx_6, h⟩ := bO h
  refine xs 18 rfl (sf_call rfl rfl TT.enters_41 rfl (sim_node_Leaf ([(1 : UInt8)] : List UInt8) ([97, 32, 118, 97, 108, 117, 101, 32, 116, 104, 97, 116, 32, 105, 115, 32, 114, 97, 116, 104, 101, 114, 32, 97, 32, 108, 111, 110, 103, 32, 111, 110, 101] : List UInt8) _ hx_6) ?_)
  obtain ⟨x_7, hx_8, h⟩ := bO h
  refine xs 19 rfl (sf_call rfl rfl TT.enters_34 rfl (sim_node_Put x_5 _ hx_8) ?_)
  refine xm 16 (.d (.tuple [.val (sV (x_7.1)), .val (.int .i64 (x_7.2))])) ?_
  refine xs 20 rfl (sf_extract rfl rfl rfl ?_)
  refine xs 21 rfl (sf_extract rfl rfl rfl ?_)
  refine xa 3 (pS (x_7.1)) ?_
  refine xz 4 (pI (x_7.2)) ?_
  refine QW.seq ?_
  refine QW.view (s' := ⟨tab [(1, pS (x_3.1)), (3, pS (x_7.1))], tabH [], 0, []⟩) (View.mk 0 [] _ _ _ rfl rfl (by decide) (iC (iC trivial)) trivial rfl zL rfl) zL ?_
  refine rG ?_
  refine xm 23 (pS (x_7.1)) ?_
  obtain ⟨x_9, hx_10, h⟩ := bO h
  refine xs 24 rfl (sf_call rfl rfl TT.enters_72 rfl (sim_refs_Of (x_7.1) _ hx_10) ?_)
  refine xm 25 (pS (x_3.1)) ?_
  refine xm 26 (pS (x_7.1)) ?_
  refine xs 27 rfl (sf_row (en := eS) (l := ([x_3.1, x_7.1] : List (List UInt8))) rfl TT.rowA_62 lay_S rfl rfl (by decide) (by simp [solids, partsP, evP, ofVal, PV.solid, putS_at, tab, unS, unT, unC, asCond, Value.oneCell']) ?_)
  obtain ⟨x_11, hx_12, h⟩ := bO h
  refine xs 28 rfl (sf_call rfl rfl TT.enters_71 rfl (sim_refs_Find x_9 ([x_3.1, x_7.1] : List (List UInt8)) _ hx_12) ?_)
  refine xm 22 (.d (.tuple [.val (sV (x_11.1)), .val (.bool (x_11.2))])) ?_
  refine xs 29 rfl (sf_extract rfl rfl rfl ?_)
  refine xs 30 rfl (sf_extract rfl rfl rfl ?_)
  refine xa 5 (pS (x_11.1)) ?_
  refine xz 6 (pB (x_11.2)) ?_
  refine sR ?_
  refine xm 32 (pS (x_3.1)) ?_
  refine xm 33 (pS (x_7.1)) ?_
  refine xm 34 (pS (x_3.1)) ?_
  refine xs 35 rfl (sf_row (en := eS) (l := ([x_3.1, x_7.1, x_3.1] : List (List UInt8))) rfl TT.rowA_62 lay_S rfl rfl (by decide) (by simp [solids, partsP, evP, ofVal, PV.solid, putS_at, tab, unS, unT, unC, asCond, Value.oneCell']) ?_)
  obtain ⟨x_13, hx_14, h⟩ := bO h
  refine xs 36 rfl (sf_call rfl rfl TT.enters_67 rfl (sim_refs_Clash ([x_3.1, x_7.1, x_3.1] : List (List UInt8)) _ hx_14) ?_)
  refine xm 31 (.d (.tuple [.val (.int .i64 (x_13.1)), .val (.int .i64 (x_13.2.1)), .val (.bool (x_13.2.2))])) ?_
  refine xs 37 rfl (sf_extract rfl rfl rfl ?_)
  refine xs 38 rfl (sf_extract rfl rfl rfl ?_)
  refine xs 39 rfl (sf_extract rfl rfl rfl ?_)
  refine xa 7 (pI (x_13.1)) ?_
  refine xa 8 (pI (x_13.2.1)) ?_
  refine xz 9 (pB (x_13.2.2)) ?_
  refine QW.seq ?_
  refine QW.view (s' := ⟨tab [(1, pS (x_3.1)), (3, pS (x_7.1)), (5, pS (x_11.1)), (6, pB (x_11.2)), (9, pB (x_13.2.2))], tabH [], 0, []⟩) (View.mk 0 [] _ _ _ rfl rfl (by decide) (iC (iC (iC (iC (iC trivial))))) trivial rfl zL rfl) zL ?_
  refine rG ?_
  refine xm 40 (pS (x_3.1)) ?_
  obtain ⟨x_15, hx_16, h⟩ := bO h
  refine xs 41 rfl (sf_call rfl rfl TT.enters_72 rfl (sim_refs_Of (x_3.1) _ hx_16) ?_)
  refine xm 42 (pS (x_3.1)) ?_
  refine xs 43 rfl (sf_seq (a := x_15) (b := x_3.1) rfl rfl rfl ?_)
  refine xm 44 (pB (x_15 == x_3.1)) ?_
  refine xg 45 (pS (x_7.1)) rfl rfl (fun hg => sf_move (v := pS (x_7.1)) rfl rfl g3) ?_
  obtain ⟨x_17, hx_18, h⟩ := bO h
  refine xg 46 (pS x_17) rfl rfl (fun hg => sf_call rfl rfl TT.enters_72 rfl (sim_refs_Of (x_7.1) _ (bT hx_18 hg)) g3) ?_
  refine xg 47 (pI (x_17.length : Int)) rfl rfl (fun hg => sf_lenS (l := x_17) rfl TT.under_9 rfl g3) ?_
  refine xg 48 (pB (decide ((x_17.length : Int) = (32 : Int)))) rfl rfl (fun hg => sf_eq (a := (x_17.length : Int)) (b := (32 : Int)) rfl rfl rfl g3) ?_
  refine xs 49 rfl (sf_pickA rfl rfl rfl rfl (fun hb => by rw [hb]; rfl) (fun _ => rfl) ?_)
  refine xm 50 (pB ((x_15 == x_3.1) && (decide ((x_17.length : Int) = (32 : Int))))) ?_
  refine xg 51 (pS (x_3.1)) rfl rfl (fun hg => sf_move (v := pS (x_3.1)) rfl rfl g3) ?_
  obtain ⟨x_19, hx_20, h⟩ := bO h
  refine xg 52 (pI x_19) rfl rfl (fun hg => sf_call rfl rfl TT.enters_64 rfl (sim_refs_Kind (x_3.1) _ (bT hx_20 hg)) g3) ?_
  refine xg 53 (pB (decide (x_19 = (2 : Int)))) rfl rfl (fun hg => sf_eq (a := x_19) (b := (2 : Int)) rfl rfl rfl g3) ?_
  refine xs 54 rfl (sf_pickA rfl rfl rfl rfl (fun hb => by rw [hb]; rfl) (fun _ => rfl) ?_)
  refine xm 55 (pB (((x_15 == x_3.1) && (decide ((x_17.length : Int) = (32 : Int)))) && (decide (x_19 = (2 : Int))))) ?_
  refine xg 56 (pS (x_7.1)) rfl rfl (fun hg => sf_move (v := pS (x_7.1)) rfl rfl g3) ?_
  obtain ⟨x_21, hx_22, h⟩ := bO h
  refine xg 57 (pS x_21) rfl rfl (fun hg => sf_call rfl rfl TT.enters_72 rfl (sim_refs_Of (x_7.1) _ (bT hx_22 hg)) g3) ?_
  obtain ⟨x_23, hx_24, h⟩ := bO h
  refine xg 58 (pI x_23) rfl rfl (fun hg => sf_call rfl rfl TT.enters_64 rfl (sim_refs_Kind x_21 _ (bT hx_24 hg)) g3) ?_
  refine xg 59 (pB (decide (x_23 = (1 : Int)))) rfl rfl (fun hg => sf_eq (a := x_23) (b := (1 : Int)) rfl rfl rfl g3) ?_
  refine xs 60 rfl (sf_pickA rfl rfl rfl rfl (fun hb => by rw [hb]; rfl) (fun _ => rfl) ?_)
  refine xm 61 (pB ((((x_15 == x_3.1) && (decide ((x_17.length : Int) = (32 : Int)))) && (decide (x_19 = (2 : Int)))) && (decide (x_23 = (1 : Int))))) ?_
  obtain ⟨x_25, hx_26, h⟩ := bO h
  refine xg 62 (pI x_25) rfl rfl (fun hg => sf_call rfl rfl TT.enters_64 rfl (sim_refs_Kind ([] : List UInt8) _ (bT hx_26 hg)) g3) ?_
  refine xg 63 (pB (decide (x_25 = (0 : Int)))) rfl rfl (fun hg => sf_eq (a := x_25) (b := (0 : Int)) rfl rfl rfl g3) ?_
  refine xs 64 rfl (sf_pickA rfl rfl rfl rfl (fun hb => by rw [hb]; rfl) (fun _ => rfl) ?_)
  refine xm 65 (pB (((((x_15 == x_3.1) && (decide ((x_17.length : Int) = (32 : Int)))) && (decide (x_19 = (2 : Int)))) && (decide (x_23 = (1 : Int)))) && (decide (x_25 = (0 : Int))))) ?_
  obtain ⟨x_27, hx_28, h⟩ := bO h
  refine xg 66 (pI x_27) rfl rfl (fun hg => sf_call rfl rfl TT.enters_64 rfl (sim_refs_Kind ([120] : List UInt8) _ (bT hx_28 hg)) g3) ?_
  refine xg 67 (pB (decide (x_27 = (3 : Int)))) rfl rfl (fun hg => sf_eq (a := x_27) (b := (3 : Int)) rfl rfl rfl g3) ?_
  refine xs 68 rfl (sf_pickA rfl rfl rfl rfl (fun hb => by rw [hb]; rfl) (fun _ => rfl) ?_)
  refine xm 69 (pB ((((((x_15 == x_3.1) && (decide ((x_17.length : Int) = (32 : Int)))) && (decide (x_19 = (2 : Int)))) && (decide (x_23 = (1 : Int)))) && (decide (x_25 = (0 : Int)))) && (decide (x_27 = (3 : Int))))) ?_
  refine xg 70 (pS (x_11.1)) rfl rfl (fun hg => sf_move (v := pS (x_11.1)) rfl rfl g3) ?_
  refine xg 71 (pS (x_7.1)) rfl rfl (fun hg => sf_move (v := pS (x_7.1)) rfl rfl g3) ?_
  refine xg 72 (pB (x_11.1 == x_7.1)) rfl rfl (fun hg => sf_seq (a := x_11.1) (b := x_7.1) rfl rfl rfl g3) ?_
  refine xs 73 rfl (sf_pickA rfl rfl rfl rfl (fun hb => by rw [hb]; rfl) (fun _ => rfl) ?_)
  refine xm 74 (pB (((((((x_15 == x_3.1) && (decide ((x_17.length : Int) = (32 : Int)))) && (decide (x_19 = (2 : Int)))) && (decide (x_23 = (1 : Int)))) && (decide (x_25 = (0 : Int)))) && (decide (x_27 = (3 : Int)))) && (x_11.1 == x_7.1))) ?_
  refine xg 75 (pB (x_11.2)) rfl rfl (fun hg => sf_move (v := pB (x_11.2)) rfl rfl g3) ?_
  refine xs 76 rfl (sf_pickA rfl rfl rfl rfl (fun hb => by rw [hb]; rfl) (fun _ => rfl) ?_)
  refine xm 77 (pB ((((((((x_15 == x_3.1) && (decide ((x_17.length : Int) = (32 : Int)))) && (decide (x_19 = (2 : Int)))) && (decide (x_23 = (1 : Int)))) && (decide (x_25 = (0 : Int)))) && (decide (x_27 = (3 : Int)))) && (x_11.1 == x_7.1)) && x_11.2)) ?_
  refine xg 78 (pB (x_13.2.2)) rfl rfl (fun hg => sf_move (v := pB (x_13.2.2)) rfl rfl g3) ?_
  refine xg 79 (pB (!(x_13).2.2)) rfl rfl (fun hg => sf_not rfl rfl g3) ?_
  refine xs 80 rfl (sf_pickA rfl rfl rfl rfl (fun hb => by rw [hb]; rfl) (fun _ => rfl) ?_)
  refine xm 81 (pB (((((((((x_15 == x_3.1) && (decide ((x_17.length : Int) = (32 : Int)))) && (decide (x_19 = (2 : Int)))) && (decide (x_23 = (1 : Int)))) && (decide (x_25 = (0 : Int)))) && (decide (x_27 = (3 : Int)))) && (x_11.1 == x_7.1)) && x_11.2) && (!(x_13).2.2))) ?_
  refine xg 82 (pS (x_3.1)) rfl rfl (fun hg => sf_move (v := pS (x_3.1)) rfl rfl g3) ?_
  obtain ⟨x_29, hx_30, h⟩ := bO h
  refine xg 83 (.d (.slice (x_29.map eS))) rfl rfl (fun hg => sf_call rfl rfl TT.enters_65 rfl (sim_refs_All (x_3.1) _ (bT hx_30 hg)) g3) ?_
  refine xg 84 (pI (x_29.length : Int)) rfl rfl (fun hg => sf_lenL (en := eS) (l := x_29) rfl TT.under_62 rfl g3) ?_
  refine xg 85 (pB (decide ((x_29.length : Int) = (1 : Int)))) rfl rfl (fun hg => sf_eq (a := (x_29.length : Int)) (b := (1 : Int)) rfl rfl rfl g3) ?_
  refine xs 86 rfl (sf_pickA rfl rfl rfl rfl (fun hb => by rw [hb]; rfl) (fun _ => rfl) ?_)
  refine xz 0 (pB ((((((((((x_15 == x_3.1) && (decide ((x_17.length : Int) = (32 : Int)))) && (decide (x_19 = (2 : Int)))) && (decide (x_23 = (1 : Int)))) && (decide (x_25 = (0 : Int)))) && (decide (x_27 = (3 : Int)))) && (x_11.1 == x_7.1)) && x_11.2) && (!(x_13).2.2)) && (decide ((x_29.length : Int) = (1 : Int))))) ?_
  refine QW.ret zL ?_
  obtain rfl := sO h
  exact Ends.one (.inr rfl) rfl (ResIs.tmp rfl) rfl rfl
inductive C_ref07_All where
  | S
  | L1 (v5_2 : (List (List UInt8))) (v6 : Int) (v3_0_2 : Int) (v3_1_2 : (List UInt8)) (v3_2_2 : (List UInt8)) (v3_3_2 : (Arr 16 (List UInt8)))
noncomputable def step_ref07_All (self : (List UInt8) → Option (List (List UInt8))) (enc0 : (List UInt8)) : C_ref07_All → Option (C_ref07_All ⊕ (List (List UInt8)))
  | .S =>
    ((g_ref06_Get enc0).bind fun (x_1 : (Node × Bool)) =>
    (bif (!(x_1).2) then
    some (.inr ([] : (List (List UInt8))))
    else
    some (.inl (.L1 ([enc0] : List (List UInt8)) (0) ((x_1.1).fKind) ((x_1.1).fPath) ((x_1.1).fValue) ((x_1.1).fKids)))))
  | .L1 v5_2 v6 v3_0_2 v3_1_2 v3_2_2 v3_3_2 =>
    (bif (decide (v6 < (16 : Int))) then
    ((gO (0 ≤ v6 ∧ v6 < ((16 : Nat) : Int)) (
    gO ((!((idx v3_3_2.1 v6) == ([] : List UInt8))) = true → 0 ≤ v6 ∧ v6 < ((16 : Nat) : Int)) (
    (bif ((!((idx v3_3_2.1 v6) == ([] : List UInt8))) && (decide (((idx v3_3_2.1 v6).length : Int) < (32 : Int)))) then
    gO (0 ≤ v6 ∧ v6 < ((16 : Nat) : Int)) (
    ((self (idx v3_3_2.1 v6)).bind fun (x_10 : (List (List UInt8))) =>
    gO ((v5_2.length + x_10.length) * 16 ≤ 140737488355328) (
    some (v5_2 ++ x_10))))
    else
    some v5_2))) : Option (List (List UInt8))).bind fun (v5_4 : (List (List UInt8))) =>
    gO (inI (v6 + (1 : Int))) (
    some (.inl (.L1 v5_4 (v6 + (1 : Int)) v3_0_2 v3_1_2 v3_2_2 v3_3_2))))
    else
    some (.inr v5_2))
noncomputable def gs_ref07_All (self : (List UInt8) → Option (List (List UInt8))) (enc0 : (List UInt8)) : Option (List (List UInt8)) := theC (step_ref07_All self enc0) .S
noncomputable def rec_ref07_All : Nat → (List UInt8) → Option (List (List UInt8))
  | 0 => fun _ => none
  | n + 1 => fun y0 => gs_ref07_All (rec_ref07_All n) y0
noncomputable def g_ref07_All (y0 : (List UInt8)) : Option (List (List UInt8)) := theR (fun n => rec_ref07_All n y0)
noncomputable def g_ref07_Of (enc0 : (List UInt8)) : Option (List UInt8) :=
    (bif (decide ((32 : Int) ≤ (enc0.length : Int))) then
    ((g_ref03_Of enc0).bind fun (x_2 : (List UInt8)) =>
    some x_2)
    else
    some enc0)
theorem sim_ref07_Of (enc0 : (List UInt8)) (r : (List UInt8)) (h : g_ref07_Of enc0 = some r) : Fun Try.prog 70 [.val (sV enc0)] (.val (sV r)) := by
  refine Fun.of_bodyQ Try.func70 rfl (by simp [Try.ntmps70]) ?_
  rw [Try.ntmps70, TT.res_70]
  refine QW.view (s' := ⟨tab [(0, pS enc0)], tabH [], 0, []⟩) (View.init (by rfl)) zL ?_
  unfold g_ref07_Of at h
  refine sR ?_
  refine xz 2 (pS ([] : List UInt8)) ?_
  refine QW.seq ?_
  refine sR ?_
  refine xm 3 (pS enc0) ?_
  refine xs 4 rfl (sf_lenS (l := enc0) rfl TT.under_9 rfl ?_)
  refine xs 5 rfl (sf_geq (a := (enc0.length : Int)) (b := (32 : Int)) rfl rfl rfl ?_)
  refine XK.nz ?_
  refine QW.cond (t := (decide ((32 : Int) ≤ (enc0.length : Int)))) rfl zL (fun hb_1 => ?_) (fun hb_1 => ?_)
  · replace h := bT h hb_1
    refine sR ?_
    refine xm 6 (pS enc0) ?_
    obtain ⟨x_2, hx_3, h⟩ := bO h
    refine xs 7 rfl (sf_call rfl rfl TT.enters_69 rfl (sim_ref03_Of enc0 _ hx_3) ?_)
    refine xz 2 (pS x_2) ?_
    refine QW.ret zL (thR ?_)
    obtain rfl := sO h
    exact Ends.one (.inr rfl) rfl (ResIs.tmp rfl) rfl rfl
  · replace h := bF h hb_1
    refine QW.skip zL (nrm ?_)
    refine sR ?_
    refine xm 8 (pS enc0) ?_
    refine xz 2 (pS enc0) ?_
    refine QW.ret zL ?_
    obtain rfl := sO h
    exact Ends.one (.inr rfl) rfl (ResIs.tmp rfl) rfl rfl
noncomputable def g_refs_Root (enc0 : (List UInt8)) : Option (Arr 32 UInt8) :=
    (bif (enc0 == ([] : List UInt8)) then
    ((g_sum_Of ([128] : List UInt8)).bind fun (x_2 : (Arr 32 UInt8)) =>
    some x_2)
    else
    ((g_sum_Of enc0).bind fun (x_4 : (Arr 32 UInt8)) =>
    some x_4))
theorem sim_refs_Root (enc0 : (List UInt8)) (r : (Arr 32 UInt8)) (h : g_refs_Root enc0 = some r) : Fun Try.prog 73 [.val (sV enc0)] (.agg (r.1.map byteD)) := by
  refine Fun.of_bodyQ Try.func73 rfl (by simp [Try.ntmps73]) ?_
  rw [Try.ntmps73, TT.res_73]
  refine QW.view (s' := ⟨tab [(0, pS enc0)], tabH [], 0, []⟩) (View.init (by rfl)) zL ?_
  unfold g_refs_Root at h
  refine sR ?_
  refine xs 2 rfl (sf_alloc (l := (((Arr.rep 32 (0 : UInt8)).1.map byteD).map .d)) rfl TT.zeroA_35 rfl rfl ?_)
  refine XK.nz ?_
  refine QW.seq ?_
  refine sR ?_
  refine xm 3 (pS enc0) ?_
  refine xs 4 rfl (sf_seq (a := enc0) (b := ([] : List UInt8)) rfl rfl rfl ?_)
  refine XK.nz ?_
  refine QW.cond (t := (enc0 == ([] : List UInt8))) rfl zL (fun hb_1 => ?_) (fun hb_1 => ?_)
  · replace h := bT h hb_1
    refine sR ?_
    obtain ⟨x_2, hx_3, h⟩ := bO h
    refine xs 5 rfl (sf_call rfl rfl TT.enters_129 rfl (sim_sum_Of ([128] : List UInt8) _ hx_3) ?_)
    refine XK.st none rfl rfl (sf_stV (l' := ((x_2.1.map byteD).map .d)) rfl TT.tyA_35 rfl rfl rfl rfl rfl (len_map2 _) (le_map2 _) (spl_same ((len_map2 _).trans (len_map2 _).symm)) ?_)
    refine XK.nz ?_
    refine QW.ret zL (thR ?_)
    obtain rfl := sO h
    exact Ends.one (.inr rfl) rfl (ResIs.cell rfl rfl TT.tyA_35 (ldv_all (by decide))) (toD_agg toDs_map) rfl
  · replace h := bF h hb_1
    refine QW.skip zL (nrm ?_)
    refine sR ?_
    refine xm 6 (pS enc0) ?_
    obtain ⟨x_4, hx_5, h⟩ := bO h
    refine xs 7 rfl (sf_call rfl rfl TT.enters_129 rfl (sim_sum_Of enc0 _ hx_5) ?_)
    refine XK.st none rfl rfl (sf_stV (l' := ((x_4.1.map byteD).map .d)) rfl TT.tyA_35 rfl rfl rfl rfl rfl (len_map2 _) (le_map2 _) (spl_same ((len_map2 _).trans (len_map2 _).symm)) ?_)
    refine XK.nz ?_
    refine QW.ret zL ?_
    obtain rfl := sO h
    exact Ends.one (.inr rfl) rfl (ResIs.cell rfl rfl TT.tyA_35 (ldv_all (by decide))) (toD_agg toDs_map) rfl
noncomputable def g_ref07_Root (enc0 : (List UInt8)) : Option (Arr 32 UInt8) :=
    (bif (enc0 == ([] : List UInt8)) then
    ((g_ref03_Sum ([128] : List UInt8)).bind fun (x_2 : (Arr 32 UInt8)) =>
    some x_2)
    else
    ((g_ref03_Sum enc0).bind fun (x_4 : (Arr 32 UInt8)) =>
    some x_4))
theorem sim_ref07_Root (enc0 : (List UInt8)) (r : (Arr 32 UInt8)) (h : g_ref07_Root enc0 = some r) : Fun Try.prog 74 [.val (sV enc0)] (.agg (r.1.map byteD)) := by
  refine Fun.of_bodyQ Try.func74 rfl (by simp [Try.ntmps74]) ?_
  rw [Try.ntmps74, TT.res_74]
  refine QW.view (s' := ⟨tab [(0, pS enc0)], tabH [], 0, []⟩) (View.init (by rfl)) zL ?_
  unfold g_ref07_Root at h
  refine sR ?_
  refine xs 2 rfl (sf_alloc (l := (((Arr.rep 32 (0 : UInt8)).1.map byteD).map .d)) rfl TT.zeroA_35 rfl rfl ?_)
  refine XK.nz ?_
  refine QW.seq ?_
  refine sR ?_
  refine xm 3 (pS enc0) ?_
  refine xs 4 rfl (sf_seq (a := enc0) (b := ([] : List UInt8)) rfl rfl rfl ?_)
  refine XK.nz ?_
  refine QW.cond (t := (enc0 == ([] : List UInt8))) rfl zL (fun hb_1 => ?_) (fun hb_1 => ?_)
  · replace h := bT h hb_1
    refine sR ?_
    obtain ⟨x_2, hx_3, h⟩ := bO h
    refine xs 5 rfl (sf_call rfl rfl TT.enters_135 rfl (sim_ref03_Sum ([128] : List UInt8) _ hx_3) ?_)
    refine XK.st none rfl rfl (sf_stV (l' := ((x_2.1.map byteD).map .d)) rfl TT.tyA_35 rfl rfl rfl rfl rfl (len_map2 _) (le_map2 _) (spl_same ((len_map2 _).trans (len_map2 _).symm)) ?_)
    refine XK.nz ?_
    refine QW.ret zL (thR ?_)
    obtain rfl := sO h
    exact Ends.one (.inr rfl) rfl (ResIs.cell rfl rfl TT.tyA_35 (ldv_all (by decide))) (toD_agg toDs_map) rfl
  · replace h := bF h hb_1
    refine QW.skip zL (nrm ?_)
    refine sR ?_
    refine xm 6 (pS enc0) ?_
    obtain ⟨x_4, hx_5, h⟩ := bO h
    refine xs 7 rfl (sf_call rfl rfl TT.enters_135 rfl (sim_ref03_Sum enc0 _ hx_5) ?_)
    refine XK.st none rfl rfl (sf_stV (l' := ((x_4.1.map byteD).map .d)) rfl TT.tyA_35 rfl rfl rfl rfl rfl (len_map2 _) (le_map2 _) (spl_same ((len_map2 _).trans (len_map2 _).symm)) ?_)
    refine XK.nz ?_
    refine QW.ret zL ?_
    obtain rfl := sO h
    exact Ends.one (.inr rfl) rfl (ResIs.cell rfl rfl TT.tyA_35 (ldv_all (by decide))) (toD_agg toDs_map) rfl
inductive C_law07_RefsOf where
  | S
  | L1 (v7_2 : Int) (v8 : Int)
  | J2 (v7_4 : Int) (v8_3 : Int)
noncomputable def step_law07_RefsOf (s0 : (List UInt8)) (t1 : (List UInt8)) (l2 : (List (List UInt8))) : C_law07_RefsOf → Option (C_law07_RefsOf ⊕ Bool)
  | .S =>
    (bif (((decide ((300 : Int) < (s0.length : Int))) || (decide ((300 : Int) < (t1.length : Int)))) || (decide ((12 : Int) < (l2.length : Int)))) then
    ((g_law07_awake ).bind fun (x_2 : Bool) =>
    some (.inr x_2))
    else
    gO (inI ((l2.length : Int) - (1 : Int))) (
    some (.inl (.L1 (-1) ((l2.length : Int) - (1 : Int))))))
  | .L1 v7_2 v8 =>
    (bif (decide ((0 : Int) ≤ v8)) then
    gO (0 ≤ v8 ∧ v8 < (l2.length : Int)) (
    (bif (decide ((300 : Int) < ((idx l2 v8).length : Int))) then
    ((g_law07_awake ).bind fun (x_9 : Bool) =>
    some (.inr x_9))
    else
    gO (0 ≤ v8 ∧ v8 < (l2.length : Int)) (
    gO ((!((idx l2 v8) == ([] : List UInt8))) = true → 0 ≤ v8 ∧ v8 < (l2.length : Int)) (
    ((bif ((!((idx l2 v8) == ([] : List UInt8))) == true) then g_ref07_Of (idx l2 v8) else some default).bind fun (x_13 : (List UInt8)) =>
    (bif ((!((idx l2 v8) == ([] : List UInt8))) && (x_13 == t1)) then
    some (.inl (.J2 v8 v8))
    else
    some (.inl (.J2 v7_2 v8))))))))
    else
    ((g_refs_Find t1 l2).bind fun (x_18 : ((List UInt8) × Bool)) =>
    gO ((((!(x_18.2 == (decide ((0 : Int) ≤ v7_2)))) == false) && (x_18.2 == true)) = true → 0 ≤ v7_2 ∧ v7_2 < (l2.length : Int)) (
    (bif (((!(x_18.2 == (decide ((0 : Int) ≤ v7_2)))) || (x_18.2 && (!(x_18.1 == (idx l2 v7_2))))) || ((!(x_18).2) && (!(x_18.1 == ([] : List UInt8))))) then
    some (.inr false)
    else
    ((g_law07_awake ).bind fun (x_22 : Bool) =>
    ((bif (x_22 == true) then g_refs_Of s0 else some default).bind fun (x_24 : (List UInt8)) =>
    ((bif (x_22 == true) then g_ref07_Of s0 else some default).bind fun (x_26 : (List UInt8)) =>
    ((bif ((x_22 && (x_24 == x_26)) == true) then g_refs_Root s0 else some default).bind fun (x_28 : (Arr 32 UInt8)) =>
    ((bif ((x_22 && (x_24 == x_26)) == true) then g_ref07_Root s0 else some default).bind fun (x_30 : (Arr 32 UInt8)) =>
    ((bif (((x_22 && (x_24 == x_26)) && (x_28.1 == x_30.1)) == true) then g_refs_Match t1 s0 else some default).bind fun (x_32 : Bool) =>
    ((bif ((((x_22 && (x_24 == x_26)) && (x_28.1 == x_30.1)) == true) && ((!(s0 == ([] : List UInt8))) == true)) then g_ref07_Of s0 else some default).bind fun (x_34 : (List UInt8)) =>
    some (.inr (((x_22 && (x_24 == x_26)) && (x_28.1 == x_30.1)) && (x_32 == ((!(s0 == ([] : List UInt8))) && (x_34 == t1))))))))))))))))
  | .J2 v7_4 v8_3 =>
    gO (inI (v8_3 - (1 : Int))) (
    some (.inl (.L1 v7_4 (v8_3 - (1 : Int)))))
noncomputable def g_law07_RefsOf (s0 : (List UInt8)) (t1 : (List UInt8)) (l2 : (List (List UInt8))) : Option Bool := theC (step_law07_RefsOf s0 t1 l2) .S
theorem sim_law07_RefsOf (s0 : (List UInt8)) (t1 : (List UInt8)) (l2 : (List (List UInt8))) (r : Bool) (h : g_law07_RefsOf s0 t1 l2 = some r) : Fun Try.prog 14 [.val (sV s0), .val (sV t1), .slice (l2.map eS)] (.val (.bool r)) := by
  refine Fun.of_bodyQ Try.func14 rfl (by simp [Try.ntmps14]) ?_
  rw [Try.ntmps14, TT.res_14]
  refine QW.view (s' := ⟨tab [(0, pS s0), (1, pS t1), (2, .d (.slice (l2.map eS)))], tabH [], 0, []⟩) (View.init (by rfl)) zL ?_
  replace h := theC_get h
  obtain ⟨_, h⟩ := h
  obtain ⟨k_0, rfl, h9⟩ := run_succ h; replace h := h9; clear h9; rw [step_law07_RefsOf] at h
  refine sR ?_
  refine xz 6 (pB false) ?_
  refine QW.seq ?_
  refine sR ?_
  refine xm 11 (pS s0) ?_
  refine xs 12 rfl (sf_lenS (l := s0) rfl TT.under_9 rfl ?_)
  refine xs 13 rfl (sf_gtr (a := (s0.length : Int)) (b := (300 : Int)) rfl rfl rfl ?_)
  refine xm 14 (pB (decide ((300 : Int) < (s0.length : Int)))) ?_
  refine xg 15 (pS t1) rfl rfl (fun hg => sf_move (v := pS t1) rfl rfl g3) ?_
  refine xg 16 (pI (t1.length : Int)) rfl rfl (fun hg => sf_lenS (l := t1) rfl TT.under_9 rfl g3) ?_
  refine xg 17 (pB (decide ((300 : Int) < (t1.length : Int)))) rfl rfl (fun hg => sf_gtr (a := (t1.length : Int)) (b := (300 : Int)) rfl rfl rfl g3) ?_
  refine xs 18 rfl (sf_pickO rfl rfl rfl rfl (fun _ => rfl) (fun hb => by rw [hb]; rfl) ?_)
  refine xm 19 (pB ((decide ((300 : Int) < (s0.length : Int))) || (decide ((300 : Int) < (t1.length : Int))))) ?_
  refine xg 20 (.d (.slice (l2.map eS))) rfl rfl (fun hg => sf_move (v := .d (.slice (l2.map eS))) rfl rfl g3) ?_
  refine xg 21 (pI (l2.length : Int)) rfl rfl (fun hg => sf_lenL (en := eS) (l := l2) rfl TT.under_62 rfl g3) ?_
  refine xg 22 (pB (decide ((12 : Int) < (l2.length : Int)))) rfl rfl (fun hg => sf_gtr (a := (l2.length : Int)) (b := (12 : Int)) rfl rfl rfl g3) ?_
  refine xs 23 rfl (sf_pickO rfl rfl rfl rfl (fun _ => rfl) (fun hb => by rw [hb]; rfl) ?_)
  refine XK.nz ?_
  refine QW.cond (t := (((decide ((300 : Int) < (s0.length : Int))) || (decide ((300 : Int) < (t1.length : Int)))) || (decide ((12 : Int) < (l2.length : Int))))) rfl zL (fun hb_1 => ?_) (fun hb_1 => ?_)
  · replace h := bGT h hb_1
    refine sR ?_
    obtain ⟨x_2, hx_3, h⟩ := bG h
    refine xs 24 rfl (sf_call rfl rfl TT.enters_63 rfl (sim_law07_awake  _ hx_3) ?_)
    refine xz 6 (pB x_2) ?_
    refine QW.ret zL (thR ?_)
    obtain rfl := sG h
    exact Ends.one (.inr rfl) rfl (ResIs.tmp rfl) rfl rfl
  · replace h := bGF h hb_1
    refine QW.skip zL (nrm ?_)
    refine sR ?_
    refine xz 7 (pI (-1)) ?_
    refine QW.seq ?_
    refine sR ?_
    refine xm 25 (.d (.slice (l2.map eS))) ?_
    refine xs 26 rfl (sf_lenL (en := eS) (l := l2) rfl TT.under_62 rfl ?_)
    obtain ⟨c_4, h⟩ := gG h
    refine xs 27 rfl (sf_sub (a := (l2.length : Int)) (b := (1 : Int)) rfl rfl rfl c_4 ?_)
    refine xz 8 (pI ((l2.length : Int) - (1 : Int))) ?_
    refine QW.block ?_
    refine QW.loop (fun k σ => ∃ v7_2 : Int, ∃ v8 : Int, k ≤ k_0 ∧ run (step_law07_RefsOf s0 t1 l2) k (.L1 v7_2 v8) = some r ∧ σ = ⟨tab [(0, pS s0), (1, pS t1), (2, .d (.slice (l2.map eS))), (7, pI v7_2), (8, pI v8)], tabH [], 0, []⟩) k_0 zL ⟨⟨tab [(0, pS s0), (1, pS t1), (2, .d (.slice (l2.map eS))), (7, pI (-1)), (8, pI ((l2.length : Int) - (1 : Int)))], tabH [], 0, []⟩, View.mk 0 [] _ _ _ rfl rfl (by decide) (iC (iC (iC (iC (iC trivial))))) trivial rfl zL rfl, (-1), ((l2.length : Int) - (1 : Int)), Nat.le_refl _, jG h, rfl⟩ ?_
    rintro k_5s _ ⟨v7_2, v8, k_5h, h, rfl⟩
    obtain ⟨k_5, rfl, h9⟩ := run_succ h; replace h := h9; clear h9; rw [step_law07_RefsOf] at h
    refine QW.seq ?_
    refine sR ?_
    refine xm 28 (pI v8) ?_
    refine xs 29 rfl (sf_geq (a := v8) (b := (0 : Int)) rfl rfl rfl ?_)
    refine XK.nz ?_
    refine QW.cond (t := (decide ((0 : Int) ≤ v8))) rfl zL (fun hb_6 => ?_) (fun hb_6 => ?_)
    · replace h := bGT h hb_6
      refine QW.skip zL (nrm ?_)
      refine QW.seqI (fun s' => ∃ v7_4 : Int, ∃ v8_3 : Int, ∃ k : Nat, k ≤ k_5 ∧ run (step_law07_RefsOf s0 t1 l2) k (.J2 v7_4 v8_3) = some r ∧ s' = ⟨tab [(0, pS s0), (1, pS t1), (2, .d (.slice (l2.map eS))), (7, pI v7_4), (8, pI v8_3)], tabH [], 0, []⟩) ?_ ?_
      · refine QW.block ?_
        refine QW.seq ?_
        refine sR ?_
        refine xm 32 (.d (.slice (l2.map eS))) ?_
        refine xm 33 (pI v8) ?_
        obtain ⟨c_7, h⟩ := gG h
        refine xs 34 rfl (sf_idxA (l := l2) (i := v8) rfl TT.slcA_62 lay_S rfl rfl c_7 ?_)
        refine xs 35 rfl (sf_ldC (d := .val (sV (idx l2 v8))) rfl TT.tyA_9 rfl (LdC.one) ?_)
        refine xs 36 rfl (sf_lenS (l := (idx l2 v8)) rfl TT.under_9 rfl ?_)
        refine xs 37 rfl (sf_gtr (a := ((idx l2 v8).length : Int)) (b := (300 : Int)) rfl rfl rfl ?_)
        refine XK.nz ?_
        refine QW.cond (t := (decide ((300 : Int) < ((idx l2 v8).length : Int)))) rfl zL (fun hb_8 => ?_) (fun hb_8 => ?_)
        · replace h := bGT h hb_8
          refine sR ?_
          obtain ⟨x_9, hx_10, h⟩ := bG h
          refine xs 38 rfl (sf_call rfl rfl TT.enters_63 rfl (sim_law07_awake  _ hx_10) ?_)
          refine xz 6 (pB x_9) ?_
          refine QW.ret zL (thR (blR (thR (thR (blR (thR ?_))))))
          obtain rfl := sG h
          exact Ends.one (.inr rfl) rfl (ResIs.tmp rfl) rfl rfl
        · replace h := bGF h hb_8
          refine QW.skip zL (nrm ?_)
          refine sR ?_
          refine xm 39 (.d (.slice (l2.map eS))) ?_
          refine xm 40 (pI v8) ?_
          obtain ⟨c_11, h⟩ := gG h
          refine xs 41 rfl (sf_idxA (l := l2) (i := v8) rfl TT.slcA_62 lay_S rfl rfl c_11 ?_)
          refine xs 42 rfl (sf_ldC (d := .val (sV (idx l2 v8))) rfl TT.tyA_9 rfl (LdC.one) ?_)
          refine xs 43 rfl (sf_sne (a := (idx l2 v8)) (b := ([] : List UInt8)) rfl rfl rfl ?_)
          refine xm 44 (pB (!((idx l2 v8) == ([] : List UInt8)))) ?_
          refine xg 45 (.d (.slice (l2.map eS))) rfl rfl (fun hg => sf_move (v := .d (.slice (l2.map eS))) rfl rfl g3) ?_
          refine xg 46 (pI v8) rfl rfl (fun hg => sf_move (v := pI v8) rfl rfl g3) ?_
          obtain ⟨c_12, h⟩ := gG h
          refine xg 47 (.d (.cptr ([.val (sV (idx l2 v8))]))) rfl rfl (fun hg => sf_idxA (l := l2) (i := v8) rfl TT.slcA_62 lay_S rfl rfl (c_12 (eqB hg)) g3) ?_
          refine xg 48 (pS (idx l2 v8)) rfl rfl (fun hg => sf_ldC (d := .val (sV (idx l2 v8))) rfl TT.tyA_9 rfl (LdC.one) g3) ?_
          obtain ⟨x_13, hx_14, h⟩ := bG h
          refine xg 49 (pS x_13) rfl rfl (fun hg => sf_call rfl rfl TT.enters_70 rfl (sim_ref07_Of (idx l2 v8) _ (bT hx_14 hg)) g3) ?_
          refine xg 50 (pS t1) rfl rfl (fun hg => sf_move (v := pS t1) rfl rfl g3) ?_
          refine xg 51 (pB (x_13 == t1)) rfl rfl (fun hg => sf_seq (a := x_13) (b := t1) rfl rfl rfl g3) ?_
          refine xs 52 rfl (sf_pickA rfl rfl rfl rfl (fun hb => by rw [hb]; rfl) (fun _ => rfl) ?_)
          refine XK.nz ?_
          refine QW.cond (t := ((!((idx l2 v8) == ([] : List UInt8))) && (x_13 == t1))) rfl zL (fun hb_15 => ?_) (fun hb_15 => ?_)
          · replace h := bGT h hb_15
            refine rG ?_
            refine xm 53 (pI v8) ?_
            refine xa 7 (pI v8) ?_
            refine XK.nil (blN (nrm ?_))
            exact ⟨⟨tab [(0, pS s0), (1, pS t1), (2, .d (.slice (l2.map eS))), (7, pI v8), (8, pI v8)], tabH [], 0, []⟩, View.mk 0 [] _ _ _ rfl rfl (by decide) (iC (iC (iC (iC (iC trivial))))) trivial rfl zL rfl, v8, v8, k_5, by omega, jG h, rfl⟩
          · replace h := bGF h hb_15
            refine QW.skip zL (blN (nrm ?_))
            exact ⟨⟨tab [(0, pS s0), (1, pS t1), (2, .d (.slice (l2.map eS))), (7, pI v7_2), (8, pI v8)], tabH [], 0, []⟩, View.mk 0 [] _ _ _ rfl rfl (by decide) (iC (iC (iC (iC (iC trivial))))) trivial rfl zL rfl, v7_2, v8, k_5, by omega, jG h, rfl⟩
      · rintro _ ⟨v7_4, v8_3, k_16s, k_16h, h, rfl⟩
        obtain ⟨k_16, rfl, h9⟩ := run_succ h; replace h := h9; clear h9; rw [step_law07_RefsOf] at h
        refine rG ?_
        refine xm 30 (pI v8_3) ?_
        obtain ⟨c_17, h⟩ := gG h
        refine xs 31 rfl (sf_sub (a := v8_3) (b := (1 : Int)) rfl rfl rfl c_17 ?_)
        refine xz 8 (pI (v8_3 - (1 : Int))) ?_
        exact ⟨k_16, by omega, ⟨tab [(0, pS s0), (1, pS t1), (2, .d (.slice (l2.map eS))), (7, pI v7_4), (8, pI (v8_3 - (1 : Int)))], tabH [], 0, []⟩, View.mk 0 [] _ _ _ rfl rfl (by decide) (iC (iC (iC (iC (iC trivial))))) trivial rfl zL rfl, v7_4, (v8_3 - (1 : Int)), by omega, jG h, rfl⟩
    · replace h := bGF h hb_6
      refine QW.exit zL (thX (thX (exE (nrm ?_))))
      refine sR ?_
      refine xm 55 (pS t1) ?_
      refine xm 56 (.d (.slice (l2.map eS))) ?_
      obtain ⟨x_18, hx_19, h⟩ := bG h
      refine xs 57 rfl (sf_call rfl rfl TT.enters_71 rfl (sim_refs_Find t1 l2 _ hx_19) ?_)
      refine xm 54 (.d (.tuple [.val (sV (x_18.1)), .val (.bool (x_18.2))])) ?_
      refine xs 58 rfl (sf_extract rfl rfl rfl ?_)
      refine xs 59 rfl (sf_extract rfl rfl rfl ?_)
      refine xa 9 (pS (x_18.1)) ?_
      refine xz 10 (pB (x_18.2)) ?_
      refine QW.seq ?_
      refine sR ?_
      refine xm 60 (pB (x_18.2)) ?_
      refine xm 61 (pI v7_2) ?_
      refine xs 62 rfl (sf_geq (a := v7_2) (b := (0 : Int)) rfl rfl rfl ?_)
      refine xs 63 rfl (sf_bne (a := x_18.2) (b := (decide ((0 : Int) ≤ v7_2))) rfl TT.under_4 rfl rfl ?_)
      refine xm 64 (pB (!(x_18.2 == (decide ((0 : Int) ≤ v7_2))))) ?_
      refine xg 65 (pB (x_18.2)) rfl rfl (fun hg => sf_move (v := pB (x_18.2)) rfl rfl g3) ?_
      refine xg 66 (pB (x_18.2)) rfl rfl (fun hg => sf_move (v := pB (x_18.2)) rfl rfl g3) ?_
      refine xg 67 (pS (x_18.1)) rfl rfl (fun hg => sf_move (v := pS (x_18.1)) rfl rfl g3) ?_
      refine xg 68 (.d (.slice (l2.map eS))) rfl rfl (fun hg => sf_move (v := .d (.slice (l2.map eS))) rfl rfl g3) ?_
      refine xg 69 (pI v7_2) rfl rfl (fun hg => sf_move (v := pI v7_2) rfl rfl g3) ?_
      obtain ⟨c_20, h⟩ := gG h
      refine xg 70 (.d (.cptr ([.val (sV (idx l2 v7_2))]))) rfl rfl (fun hg => sf_idxA (l := l2) (i := v7_2) rfl TT.slcA_62 lay_S rfl rfl (c_20 hg) g3) ?_
      refine xg 71 (pS (idx l2 v7_2)) rfl rfl (fun hg => sf_ldC (d := .val (sV (idx l2 v7_2))) rfl TT.tyA_9 rfl (LdC.one) g3) ?_
      refine xg 72 (pB (!(x_18.1 == (idx l2 v7_2)))) rfl rfl (fun hg => sf_sne (a := x_18.1) (b := (idx l2 v7_2)) rfl rfl rfl g3) ?_
      refine XK.gp (some 73) rfl rfl rfl rfl rfl rfl (fun h => h) (fun hg hb => by first | (rw [hg, hb]; rfl) | (simp only [hg, hb]; rfl) | simp_all) (fun _ _ => rfl) (x_18.2 && (!(x_18.1 == (idx l2 v7_2)))) (bif_and _ _) ?_
      refine xs 74 rfl (sf_pickO rfl rfl rfl rfl (fun _ => rfl) (fun hb => by rw [hb]; rfl) ?_)
      refine xm 75 (pB ((!(x_18.2 == (decide ((0 : Int) ≤ v7_2)))) || (x_18.2 && (!(x_18.1 == (idx l2 v7_2)))))) ?_
      refine xg 76 (pB (x_18.2)) rfl rfl (fun hg => sf_move (v := pB (x_18.2)) rfl rfl g3) ?_
      refine xg 77 (pB (!(x_18).2)) rfl rfl (fun hg => sf_not rfl rfl g3) ?_
      refine xg 78 (pB (!(x_18).2)) rfl rfl (fun hg => sf_move (v := pB (!(x_18).2)) rfl rfl g3) ?_
      refine xg 79 (pS (x_18.1)) rfl rfl (fun hg => sf_move (v := pS (x_18.1)) rfl rfl g3) ?_
      refine xg 80 (pB (!(x_18.1 == ([] : List UInt8)))) rfl rfl (fun hg => sf_sne (a := x_18.1) (b := ([] : List UInt8)) rfl rfl rfl g3) ?_
      refine XK.gp (some 81) rfl rfl rfl rfl rfl rfl (fun h => h) (fun hg hb => by first | (rw [hg, hb]; rfl) | (simp only [hg, hb]; rfl) | simp_all) (fun _ _ => rfl) ((!(x_18).2) && (!(x_18.1 == ([] : List UInt8)))) (bif_and _ _) ?_
      refine xs 82 rfl (sf_pickO rfl rfl rfl rfl (fun _ => rfl) (fun hb => by rw [hb]; rfl) ?_)
      refine XK.nz ?_
      refine QW.cond (t := (((!(x_18.2 == (decide ((0 : Int) ≤ v7_2)))) || (x_18.2 && (!(x_18.1 == (idx l2 v7_2))))) || ((!(x_18).2) && (!(x_18.1 == ([] : List UInt8)))))) rfl zL (fun hb_21 => ?_) (fun hb_21 => ?_)
      · replace h := bGT h hb_21
        refine sR ?_
        refine xz 6 (pB false) ?_
        refine QW.ret zL (thR ?_)
        obtain rfl := sG h
        exact Ends.one (.inr rfl) rfl (ResIs.tmp rfl) rfl rfl
      · replace h := bGF h hb_21
        refine QW.skip zL (nrm ?_)
        refine sR ?_
        obtain ⟨x_22, hx_23, h⟩ := bG h
        refine xs 83 rfl (sf_call rfl rfl TT.enters_63 rfl (sim_law07_awake  _ hx_23) ?_)
        refine xm 84 (pB x_22) ?_
        refine xg 85 (pS s0) rfl rfl (fun hg => sf_move (v := pS s0) rfl rfl g3) ?_
        obtain ⟨x_24, hx_25, h⟩ := bG h
        refine xg 86 (pS x_24) rfl rfl (fun hg => sf_call rfl rfl TT.enters_72 rfl (sim_refs_Of s0 _ (bT hx_25 hg)) g3) ?_
        refine xg 87 (pS s0) rfl rfl (fun hg => sf_move (v := pS s0) rfl rfl g3) ?_
        obtain ⟨x_26, hx_27, h⟩ := bG h
        refine xg 88 (pS x_26) rfl rfl (fun hg => sf_call rfl rfl TT.enters_70 rfl (sim_ref07_Of s0 _ (bT hx_27 hg)) g3) ?_
        refine xg 89 (pB (x_24 == x_26)) rfl rfl (fun hg => sf_seq (a := x_24) (b := x_26) rfl rfl rfl g3) ?_
        refine xs 90 rfl (sf_pickA rfl rfl rfl rfl (fun hb => by rw [hb]; rfl) (fun _ => rfl) ?_)
        refine xm 91 (pB (x_22 && (x_24 == x_26))) ?_
        refine xg 92 (pS s0) rfl rfl (fun hg => sf_move (v := pS s0) rfl rfl g3) ?_
        obtain ⟨x_28, hx_29, h⟩ := bG h
        refine xg 93 (.d (.agg (x_28.1.map byteD))) rfl rfl (fun hg => sf_call rfl rfl TT.enters_73 rfl (sim_refs_Root s0 _ (bT hx_29 hg)) g3) ?_
        refine xg 94 (pS s0) rfl rfl (fun hg => sf_move (v := pS s0) rfl rfl g3) ?_
        obtain ⟨x_30, hx_31, h⟩ := bG h
        refine xg 95 (.d (.agg (x_30.1.map byteD))) rfl rfl (fun hg => sf_call rfl rfl TT.enters_74 rfl (sim_ref07_Root s0 _ (bT hx_31 hg)) g3) ?_
        refine xg 96 (pB (x_28.1 == x_30.1)) rfl rfl (fun hg => sf_arreq (p := x_28) (q := x_30) rfl TT.arrB_35_32 rfl rfl g3) ?_
        refine xs 97 rfl (sf_pickA rfl rfl rfl rfl (fun hb => by rw [hb]; rfl) (fun _ => rfl) ?_)
        refine xm 98 (pB ((x_22 && (x_24 == x_26)) && (x_28.1 == x_30.1))) ?_
        refine xg 99 (pS t1) rfl rfl (fun hg => sf_move (v := pS t1) rfl rfl g3) ?_
        refine xg 100 (pS s0) rfl rfl (fun hg => sf_move (v := pS s0) rfl rfl g3) ?_
        obtain ⟨x_32, hx_33, h⟩ := bG h
        refine xg 101 (pB x_32) rfl rfl (fun hg => sf_call rfl rfl TT.enters_75 rfl (sim_refs_Match t1 s0 _ (bT hx_33 hg)) g3) ?_
        refine xg 102 (pS s0) rfl rfl (fun hg => sf_move (v := pS s0) rfl rfl g3) ?_
        refine xg 103 (pB (!(s0 == ([] : List UInt8)))) rfl rfl (fun hg => sf_sne (a := s0) (b := ([] : List UInt8)) rfl rfl rfl g3) ?_
        refine xg 104 (pB (!(s0 == ([] : List UInt8)))) rfl rfl (fun hg => sf_move (v := pB (!(s0 == ([] : List UInt8)))) rfl rfl g3) ?_
        refine xg 105 (pS s0) rfl rfl (fun hg => sf_move (v := pS s0) rfl rfl g3) ?_
        obtain ⟨x_34, hx_35, h⟩ := bG h
        refine xg 106 (pS x_34) rfl rfl (fun hg => sf_call rfl rfl TT.enters_70 rfl (sim_ref07_Of s0 _ (bT hx_35 hg)) g3) ?_
        refine xg 107 (pS t1) rfl rfl (fun hg => sf_move (v := pS t1) rfl rfl g3) ?_
        refine xg 108 (pB (x_34 == t1)) rfl rfl (fun hg => sf_seq (a := x_34) (b := t1) rfl rfl rfl g3) ?_
        refine XK.gp (some 109) rfl rfl rfl rfl rfl rfl (fun h => h) (fun hg hb => by first | (rw [hg, hb]; rfl) | (simp only [hg, hb]; rfl) | simp_all) (fun _ _ => rfl) ((!(s0 == ([] : List UInt8))) && (x_34 == t1)) (bif_and _ _) ?_
        refine xg 110 (pB (x_32 == ((!(s0 == ([] : List UInt8))) && (x_34 == t1)))) rfl rfl (fun hg => sf_beq (a := x_32) (b := ((!(s0 == ([] : List UInt8))) && (x_34 == t1))) rfl TT.under_4 rfl rfl g3) ?_
        refine xs 111 rfl (sf_pickA rfl rfl rfl rfl (fun hb => by rw [hb]; rfl) (fun _ => rfl) ?_)
        refine xz 6 (pB (((x_22 && (x_24 == x_26)) && (x_28.1 == x_30.1)) && (x_32 == ((!(s0 == ([] : List UInt8))) && (x_34 == t1))))) ?_
        refine QW.ret zL ?_
        obtain rfl := sG h
        exact Ends.one (.inr rfl) rfl (ResIs.tmp rfl) rfl rfl
end Go.Proofs.Ytoeppofkmcdknaa.K
