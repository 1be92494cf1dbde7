/- The references of layers 47 and 48: what they reckon. -/
import Derived.Test.YtoeppofkmcdknaaGWPin
import Derived.KernelRfl
namespace Go.Proofs.Ytoeppofkmcdknaa.K
open Go Go.RowKit
set_option linter.unusedSimpArgs false
set_option linter.unusedVariables false
set_option maxRecDepth 20000
set_option maxHeartbeats 4000000
namespace TT
theorem arrA_117 : arrA Try.prog 117 = some (32, 1, false) := by kernel_rfl
theorem arrE_35_32_5 : arrE Try.prog 35 32 5 = true := by kernel_rfl
theorem enters_125 : entersB Try.prog 125 = true := by kernel_rfl
theorem enters_23 : entersB Try.prog 23 = true := by kernel_rfl
theorem enters_24 : entersB Try.prog 24 = true := by kernel_rfl
theorem enters_28 : entersB Try.prog 28 = true := by kernel_rfl
theorem enters_87 : entersB Try.prog 87 = true := by kernel_rfl
theorem enters_88 : entersB Try.prog 88 = true := by kernel_rfl
theorem enters_89 : entersB Try.prog 89 = true := by kernel_rfl
theorem eqG_37 : Try.prog.eqGuardType Try.prog.depth 37 = false := by kernel_rfl
theorem fldsE_37 : fldsE Try.prog 37 = [(true, 0, 35), (true, 32, 3), (true, 33, 9)] := by kernel_rfl
theorem res_123 : Try.f123.results.toList = [.tmp 4] := rfl
theorem res_125 : Try.f125.results.toList = [.tmp 4] := rfl
theorem res_21 : Try.f21.results.toList = [.tmp 4] := rfl
theorem res_23 : Try.f23.results.toList = [.tmp 2] := rfl
theorem res_24 : Try.f24.results.toList = [.tmp 2] := rfl
theorem res_28 : Try.f28.results.toList = [.tmp 4] := rfl
theorem res_50 : Try.f50.results.toList = [.tmp 2] := rfl
theorem res_54 : Try.f54.results.toList = [.tmp 4] := rfl
theorem res_61 : Try.f61.results.toList = [.tmp 2] := rfl
theorem res_87 : Try.f87.results.toList = [.tmp 4] := rfl
theorem res_88 : Try.f88.results.toList = [.tmp 2] := rfl
theorem res_89 : Try.f89.results.toList = [.tmp 2] := rfl
theorem rowA_72 : rowA Try.prog 72 = some (1, 24) := by kernel_rfl
theorem slcA_117 : slcA Try.prog 117 = none := by kernel_rfl
theorem slcA_72 : slcA Try.prog 72 = some (1, 24, false) := by kernel_rfl
theorem strE_37 : strE Try.prog 37 = true := by kernel_rfl
theorem under_72 : Program.underlying Try.prog 72 = some (.slice 22) := by kernel_rfl
end TT
def beqRow (x y : Row) : Bool := (((x.fSum).1 == (y.fSum).1) && ((decide (x.fEpoch = y.fEpoch)) && (x.fBody == y.fBody)))
theorem eqA_Row {d : Nat} (x y : Row) : EqA Try.prog (d + 1 + 1 + 1) 37 (cRow x) (cRow y) (beqRow x y) := EqA.struct TT.strE_37 TT.fldsE_37 (FE.cons (EqV.agg TT.tyA_35 (show ((x.fSum).1.map byteD).length = 32 by rw [List.length_map, (x.fSum).2]) (show ((y.fSum).1.map byteD).length = 32 by rw [List.length_map, (y.fSum).2]) (EqA.arr (en := byteD) TT.arrE_35_32_5 (fun p q => EqV.u8 TT.tyA_5 TT.under_5) x.fSum y.fSum)) (FE.cons (EqV.int TT.tyA_3 TT.under_3) (FE.one (EqV.str TT.tyA_9 TT.under_9))))
theorem eqr_Row (x y : Row) : EqRun Try.prog 37 (.agg (cRow x)) (.agg (cRow y)) (beqRow x y) := EqA.run (eqA_Row (d := 9997) x y) TT.eqG_37
theorem beqRow_iff (x y : Row) : beqRow x y = true ↔ x = y := by
  cases x; cases y; simp [beqRow, Subtype.ext_iff]
inductive C_ref48_All where
  | S
  | L1 (v3 : (List Row)) (v4 : Int)
noncomputable def step_ref48_All (p0 : (List (List Row))) : C_ref48_All → Option (C_ref48_All ⊕ (List Row))
  | .S =>
    some (.inl (.L1 ([] : (List Row)) (0)))
  | .L1 v3 v4 =>
    (bif (decide (v4 < (p0.length : Int))) then
    gO (0 ≤ v4 ∧ v4 < (p0.length : Int)) (
    gO ((v3.length + (idx p0 v4).length) * 56 ≤ 140737488355328) (
    gO (inI (v4 + (1 : Int))) (
    some (.inl (.L1 (v3 ++ (idx p0 v4)) (v4 + (1 : Int)))))))
    else
    some (.inr v3))
noncomputable def g_ref48_All (p0 : (List (List Row))) : Option (List Row) := theC (step_ref48_All p0) .S
theorem sim_ref48_All (p0 : (List (List Row))) (r : (List Row)) (h : g_ref48_All p0 = some r) : Fun Try.prog 50 [.slice (p0.map (eL eRow))] (.slice (r.map eRow)) := by
  refine Fun.of_bodyQ Try.func50 rfl (by simp [Try.ntmps50]) ?_
  rw [Try.ntmps50, TT.res_50]
  refine QW.view (s' := ⟨tab [(0, .d (.slice (p0.map (eL eRow))))], tabH [], 0, []⟩) (View.init (by rfl)) zL ?_
  replace h := theC_get h
  obtain ⟨_, h⟩ := h
  obtain ⟨k_0, rfl, h9⟩ := run_succ h; replace h := h9; clear h9; rw [step_ref48_All] at h
  refine sR ?_
  refine xz 2 (.full (([] : (List Row)).map eRow)) ?_
  refine sR ?_
  refine xz 3 (.full (([] : (List Row)).map eRow)) ?_
  refine QW.seq ?_
  refine sR ?_
  refine xz 4 (pI (0)) ?_
  refine QW.block ?_
  refine QW.loop (fun k σ => ∃ v3 : (List Row), ∃ v4 : Int, k ≤ k_0 ∧ run (step_ref48_All p0) k (.L1 v3 v4) = some r ∧ σ = ⟨tab [(0, .d (.slice (p0.map (eL eRow)))), (3, .own 0 (v3.map eRow)), (4, pI v4)], tabH [.spare 34 v3.length], 1, []⟩) k_0 zL ⟨⟨tab [(0, .d (.slice (p0.map (eL eRow)))), (3, .own 0 (([] : (List Row)).map eRow)), (4, pI (0))], tabH [.spare 34 ([] : (List Row)).length], 1, []⟩, View.trans (View.buf 3 34 rfl zL) (View.mk 1 [0] _ _ _ rfl rfl (by decide) (iC (iC (iC trivial))) (And.intro rfl trivial) rfl zL rfl), ([] : (List Row)), 0, Nat.le_refl _, jG h, rfl⟩ ?_
  rintro k_1s _ ⟨v3, v4, k_1h, h, rfl⟩
  obtain ⟨k_1, rfl, h9⟩ := run_succ h; replace h := h9; clear h9; rw [step_ref48_All] at h
  refine QW.seq ?_
  refine sR ?_
  refine xm 5 (pI v4) ?_
  refine xm 6 (.d (.slice (p0.map (eL eRow)))) ?_
  refine xs 7 rfl (sf_lenL (en := (eL eRow)) (l := p0) rfl TT.under_72 rfl ?_)
  refine xs 8 rfl (sf_lss (a := v4) (b := (p0.length : Int)) rfl rfl rfl ?_)
  refine XK.nz ?_
  refine QW.cond (t := (decide (v4 < (p0.length : Int)))) rfl zL (fun hb_2 => ?_) (fun hb_2 => ?_)
  · replace h := bGT h hb_2
    refine QW.skip zL (nrm ?_)
    refine QW.seq ?_
    refine QW.block ?_
    refine rG ?_
    refine xm 11 (.own 0 (v3.map eRow)) ?_
    refine xm 12 (.d (.slice (p0.map (eL eRow)))) ?_
    refine xm 13 (pI v4) ?_
    obtain ⟨c_3, h⟩ := gG h
    refine xs 14 rfl (sf_idxA (l := p0) (i := v4) rfl TT.slcA_72 lay_L rfl rfl c_3 ?_)
    refine xs 15 rfl (sf_ldC (d := .slice ((idx p0 v4).map eRow)) rfl TT.tyA_22 rfl (LdC.one) ?_)
    obtain ⟨c_4, h⟩ := gG h
    refine xs 16 rfl (sf_appO (en := eRow) (l := v3) (l2 := (idx p0 v4)) rfl TT.rowA_22 TT.under_22 rfl lay_Row rfl rfl rfl c_4 (by decide) ?_)
    refine xa 3 (.own 1 ((v3 ++ (idx p0 v4)).map eRow)) ?_
    refine XK.nil (blN (nrm ?_))
    refine rG ?_
    refine xm 9 (pI v4) ?_
    obtain ⟨c_5, h⟩ := gG h
    refine xs 10 rfl (sf_add (a := v4) (b := (1 : Int)) rfl rfl rfl c_5 ?_)
    refine xz 4 (pI (v4 + (1 : Int))) ?_
    exact ⟨k_1, by omega, ⟨tab [(0, .d (.slice (p0.map (eL eRow)))), (3, .own 0 ((v3 ++ (idx p0 v4)).map eRow)), (4, pI (v4 + (1 : Int)))], tabH [.spare 34 (v3 ++ (idx p0 v4)).length], 1, []⟩, View.mk 1 [1] _ _ _ rfl rfl (by decide) (iC (iC (iC trivial))) (And.intro rfl trivial) rfl zL rfl, (v3 ++ (idx p0 v4)), (v4 + (1 : Int)), by omega, jG h, rfl⟩
  · replace h := bGF h hb_2
    refine QW.exit zL (thX (thX (exE (nrm ?_))))
    refine sR ?_
    refine xm 17 (.own 0 (v3.map eRow)) ?_
    refine xz 2 (.own 0 (v3.map eRow)) ?_
    refine QW.ret zL ?_
    obtain rfl := sG h
    exact Ends.one (.inr rfl) rfl (ResIs.tmp rfl) rfl rfl
inductive C_ref48_join where
  | S
  | L1 (v5_2 : (List (List Row))) (v6 : Int)
noncomputable def step_ref48_join (p0 : (List (List Row))) (k1 : Int) : C_ref48_join → Option (C_ref48_join ⊕ (List (List Row)))
  | .S =>
    some (.inl (.L1 ([] : (List (List Row))) (0)))
  | .L1 v5_2 v6 =>
    (bif (decide (v6 < (p0.length : Int))) then
    (((bif (decide (v6 = k1)) then
    gO (0 ≤ k1 ∧ k1 < (p0.length : Int)) (
    gO ((([] : List Row).length + (idx p0 k1).length) * 56 ≤ 140737488355328) (
    gO (inI (k1 + (1 : Int))) (
    gO (0 ≤ (k1 + (1 : Int)) ∧ (k1 + (1 : Int)) < (p0.length : Int)) (
    gO (((([] : List Row) ++ (idx p0 k1)).length + (idx p0 (k1 + (1 : Int))).length) * 56 ≤ 140737488355328) (
    gO ((v5_2.length + ([((([] : List Row) ++ (idx p0 k1)) ++ (idx p0 (k1 + (1 : Int))))] : List (List Row)).length) * 24 ≤ 140737488355328) (
    some (v5_2 ++ ([((([] : List Row) ++ (idx p0 k1)) ++ (idx p0 (k1 + (1 : Int))))] : List (List Row)))))))))
    else
    gO (inI (k1 + (1 : Int))) (
    (bif (!decide (v6 = (k1 + (1 : Int)))) then
    gO (0 ≤ v6 ∧ v6 < (p0.length : Int)) (
    gO ((v5_2.length + ([(idx p0 v6)] : List (List Row)).length) * 24 ≤ 140737488355328) (
    some (v5_2 ++ ([(idx p0 v6)] : List (List Row)))))
    else
    some v5_2))) : Option (List (List Row))).bind fun (v5_5 : (List (List Row))) =>
    gO (inI (v6 + (1 : Int))) (
    some (.inl (.L1 v5_5 (v6 + (1 : Int))))))
    else
    some (.inr v5_2))
noncomputable def g_ref48_join (p0 : (List (List Row))) (k1 : Int) : Option (List (List Row)) := theC (step_ref48_join p0 k1) .S
theorem sim_ref48_join (p0 : (List (List Row))) (k1 : Int) (r : (List (List Row))) (h : g_ref48_join p0 k1 = some r) : Fun Try.prog 123 [.slice (p0.map (eL eRow)), .val (.int .i64 k1)] (.slice (r.map (eL eRow))) := by
  refine Fun.of_bodyQ Try.func123 rfl (by simp [Try.ntmps123]) ?_
  rw [Try.ntmps123, TT.res_123]
  refine QW.view (s' := ⟨tab [(0, .d (.slice (p0.map (eL eRow)))), (1, pI k1)], tabH [], 0, []⟩) (View.init (by rfl)) zL ?_
  replace h := theC_get h
  obtain ⟨_, h⟩ := h
  obtain ⟨k_0, rfl, h9⟩ := run_succ h; replace h := h9; clear h9; rw [step_ref48_join] at h
  refine sR ?_
  refine xz 4 (.full (([] : (List (List Row))).map (eL eRow))) ?_
  refine sR ?_
  refine xz 5 (.full (([] : (List (List Row))).map (eL eRow))) ?_
  refine QW.seq ?_
  refine sR ?_
  refine xz 6 (pI (0)) ?_
  refine QW.block ?_
  refine QW.loop (fun k σ => ∃ v5_2 : (List (List Row)), ∃ v6 : Int, k ≤ k_0 ∧ run (step_ref48_join p0 k1) k (.L1 v5_2 v6) = some r ∧ σ = ⟨tab [(0, .d (.slice (p0.map (eL eRow)))), (1, pI k1), (5, .own 0 (v5_2.map (eL eRow))), (6, pI v6)], tabH [.spare 1 v5_2.length], 1, []⟩) k_0 zL ⟨⟨tab [(0, .d (.slice (p0.map (eL eRow)))), (1, pI k1), (5, .own 0 (([] : (List (List Row))).map (eL eRow))), (6, pI (0))], tabH [.spare 1 ([] : (List (List Row))).length], 1, []⟩, View.trans (View.buf 5 1 rfl zL) (View.mk 1 [0] _ _ _ rfl rfl (by decide) (iC (iC (iC (iC trivial)))) (And.intro rfl trivial) rfl zL rfl), ([] : (List (List Row))), 0, Nat.le_refl _, jG h, rfl⟩ ?_
  rintro k_1s _ ⟨v5_2, v6, k_1h, h, rfl⟩
  obtain ⟨k_1, rfl, h9⟩ := run_succ h; replace h := h9; clear h9; rw [step_ref48_join] at h
  refine QW.seq ?_
  refine sR ?_
  refine xm 7 (pI v6) ?_
  refine xm 8 (.d (.slice (p0.map (eL eRow)))) ?_
  refine xs 9 rfl (sf_lenL (en := (eL eRow)) (l := p0) rfl TT.under_72 rfl ?_)
  refine xs 10 rfl (sf_lss (a := v6) (b := (p0.length : Int)) rfl rfl rfl ?_)
  refine XK.nz ?_
  refine QW.cond (t := (decide (v6 < (p0.length : Int)))) rfl zL (fun hb_2 => ?_) (fun hb_2 => ?_)
  · replace h := bGT h hb_2
    refine QW.skip zL (nrm ?_)
    obtain ⟨v5_5, hq, h⟩ := bG h
    refine QW.seqI (fun s' => s' = ⟨tab [(0, .d (.slice (p0.map (eL eRow)))), (1, pI k1), (5, .own 0 (v5_5.map (eL eRow))), (6, pI v6)], tabH [.spare 1 v5_5.length], 1, []⟩) ?_ ?_
    · replace h := hq; clear hq
      refine QW.block ?_
      refine sR ?_
      refine xm 13 (pI v6) ?_
      refine xm 14 (pI k1) ?_
      refine xs 15 rfl (sf_eq (a := v6) (b := k1) rfl rfl rfl ?_)
      refine XK.nz ?_
      refine QW.cond (t := (decide (v6 = k1))) rfl zL (fun hb_3 => ?_) (fun hb_3 => ?_)
      · replace h := bT h hb_3
        refine QW.region zL (PW.regK (id := 6) mixedX (M := _) rfl (by kernel_rfl) ?_)
        refine RK.st (some 16) rfl rfl (sf_move (v := .own 0 (v5_2.map (eL eRow))) rfl rfl ?_)
        refine RK.st (some 17) rfl rfl (sf_row (en := eRow) (l := ([] : List Row)) rfl TT.rowA_22 lay_Row (by first | rfl | (simp only [List.map_cons, List.map_nil, eRow_eq]; rfl)) rfl (by decide) (by simp [solids, partsP, evP, ofVal, PV.solid, putS_at, tab, unS, unT, unC, asCond, Value.oneCell']) ?_)
        refine RK.st (some 18) rfl rfl (sf_move (v := .d (.slice (p0.map (eL eRow)))) rfl rfl ?_)
        refine RK.st (some 19) rfl rfl (sf_move (v := pI k1) rfl rfl ?_)
        obtain ⟨c_4, h⟩ := gO_get h
        refine RK.st (some 20) rfl rfl (sf_idxA (l := p0) (i := k1) rfl TT.slcA_72 lay_L rfl rfl c_4 ?_)
        refine RK.st (some 21) rfl rfl (sf_ldC (d := .slice ((idx p0 k1).map eRow)) rfl TT.tyA_22 rfl (LdC.one) ?_)
        obtain ⟨c_5, h⟩ := gO_get h
        refine RK.st (some 22) rfl rfl (sf_appF (en := eRow) (l := ([] : List Row)) (l2 := (idx p0 k1)) rfl TT.rowA_22 TT.under_22 rfl lay_Row rfl rfl ⟨c_5, fun _ => rfl⟩ (by decide) ?_)
        refine RK.st (some 23) rfl rfl (sf_move (v := .d (.slice (p0.map (eL eRow)))) rfl rfl ?_)
        refine RK.st (some 24) rfl rfl (sf_move (v := pI k1) rfl rfl ?_)
        obtain ⟨c_6, h⟩ := gO_get h
        refine RK.st (some 25) rfl rfl (sf_add (a := k1) (b := (1 : Int)) rfl rfl rfl c_6 ?_)
        obtain ⟨c_7, h⟩ := gO_get h
        refine RK.st (some 26) rfl rfl (sf_idxA (l := p0) (i := (k1 + (1 : Int))) rfl TT.slcA_72 lay_L rfl rfl c_7 ?_)
        refine RK.st (some 27) rfl rfl (sf_ldC (d := .slice ((idx p0 (k1 + (1 : Int))).map eRow)) rfl TT.tyA_22 rfl (LdC.one) ?_)
        obtain ⟨c_8, h⟩ := gO_get h
        refine RK.st (some 28) rfl rfl (sf_appO (en := eRow) (l := (([] : List Row) ++ (idx p0 k1))) (l2 := (idx p0 (k1 + (1 : Int)))) rfl TT.rowA_22 TT.under_22 rfl lay_Row rfl rfl rfl c_8 (by decide) ?_)
        refine RK.st (some 29) rfl rfl (sf_row (en := (eL eRow)) (l := ([((([] : List Row) ++ (idx p0 k1)) ++ (idx p0 (k1 + (1 : Int))))] : List (List Row))) rfl TT.rowA_72 lay_L rfl rfl (by decide) (by simp [solids, partsP, evP, ofVal, PV.solid, putS_at, tab, unS, unT, unC, asCond, Value.oneCell']) ?_)
        obtain ⟨c_9, h⟩ := gO_get h
        refine RK.st (some 30) rfl rfl (sf_appO (en := (eL eRow)) (l := v5_2) (l2 := ([((([] : List Row) ++ (idx p0 k1)) ++ (idx p0 (k1 + (1 : Int))))] : List (List Row))) rfl TT.rowA_72 TT.under_72 rfl lay_L rfl rfl rfl c_9 (by decide) ?_)
        refine RK.st (some 5) rfl rfl (sf_assign (v := .own 3 ((v5_2 ++ ([((([] : List Row) ++ (idx p0 k1)) ++ (idx p0 (k1 + (1 : Int))))] : List (List Row))).map (eL eRow))) rfl rfl ?_)
        refine RK.nil ⟨RecsOK.comp (by rfl), (blN (nrm ?_))⟩
        obtain rfl := sO h
        exact ⟨⟨tab [(0, .d (.slice (p0.map (eL eRow)))), (1, pI k1), (5, .own 0 ((v5_2 ++ ([((([] : List Row) ++ (idx p0 k1)) ++ (idx p0 (k1 + (1 : Int))))] : List (List Row))).map (eL eRow))), (6, pI v6)], tabH [.spare 1 (v5_2 ++ ([((([] : List Row) ++ (idx p0 k1)) ++ (idx p0 (k1 + (1 : Int))))] : List (List Row))).length], 1, []⟩, View.mk 1 [3] _ _ _ rfl rfl (by decide) (iC (iC (iC (iC trivial)))) (And.intro rfl trivial) rfl zL rfl, rfl⟩
      · replace h := bF h hb_3
        refine sR ?_
        refine xm 31 (pI v6) ?_
        refine xm 32 (pI k1) ?_
        obtain ⟨c_10, h⟩ := gO_get h
        refine xs 33 rfl (sf_add (a := k1) (b := (1 : Int)) rfl rfl rfl c_10 ?_)
        refine xs 34 rfl (sf_ne (a := v6) (b := (k1 + (1 : Int))) rfl rfl rfl ?_)
        refine XK.nz ?_
        refine QW.cond (t := (!decide (v6 = (k1 + (1 : Int))))) rfl zL (fun hb_11 => ?_) (fun hb_11 => ?_)
        · replace h := bT h hb_11
          refine rG ?_
          refine xm 35 (.own 0 (v5_2.map (eL eRow))) ?_
          refine xm 36 (.d (.slice (p0.map (eL eRow)))) ?_
          refine xm 37 (pI v6) ?_
          obtain ⟨c_12, h⟩ := gO_get h
          refine xs 38 rfl (sf_idxA (l := p0) (i := v6) rfl TT.slcA_72 lay_L rfl rfl c_12 ?_)
          refine xs 39 rfl (sf_ldC (d := .slice ((idx p0 v6).map eRow)) rfl TT.tyA_22 rfl (LdC.one) ?_)
          refine xs 40 rfl (sf_row (en := (eL eRow)) (l := ([(idx p0 v6)] : List (List Row))) rfl TT.rowA_72 lay_L rfl rfl (by decide) (by simp [solids, partsP, evP, ofVal, PV.solid, putS_at, tab, unS, unT, unC, asCond, Value.oneCell']) ?_)
          obtain ⟨c_13, h⟩ := gO_get h
          refine xs 41 rfl (sf_appO (en := (eL eRow)) (l := v5_2) (l2 := ([(idx p0 v6)] : List (List Row))) rfl TT.rowA_72 TT.under_72 rfl lay_L rfl rfl rfl c_13 (by decide) ?_)
          refine xa 5 (.own 1 ((v5_2 ++ ([(idx p0 v6)] : List (List Row))).map (eL eRow))) ?_
          refine XK.nil (blN (nrm ?_))
          obtain rfl := sO h
          exact ⟨⟨tab [(0, .d (.slice (p0.map (eL eRow)))), (1, pI k1), (5, .own 0 ((v5_2 ++ ([(idx p0 v6)] : List (List Row))).map (eL eRow))), (6, pI v6)], tabH [.spare 1 (v5_2 ++ ([(idx p0 v6)] : List (List Row))).length], 1, []⟩, View.mk 1 [1] _ _ _ rfl rfl (by decide) (iC (iC (iC (iC trivial)))) (And.intro rfl trivial) rfl zL rfl, rfl⟩
        · replace h := bF h hb_11
          refine QW.skip zL (blN (nrm ?_))
          obtain rfl := sO h
          exact ⟨⟨tab [(0, .d (.slice (p0.map (eL eRow)))), (1, pI k1), (5, .own 0 (v5_2.map (eL eRow))), (6, pI v6)], tabH [.spare 1 v5_2.length], 1, []⟩, View.mk 1 [0] _ _ _ rfl rfl (by decide) (iC (iC (iC (iC trivial)))) (And.intro rfl trivial) rfl zL rfl, rfl⟩
    · rintro _ rfl
      refine rG ?_
      refine xm 11 (pI v6) ?_
      obtain ⟨c_14, h⟩ := gG h
      refine xs 12 rfl (sf_add (a := v6) (b := (1 : Int)) rfl rfl rfl c_14 ?_)
      refine xz 6 (pI (v6 + (1 : Int))) ?_
      exact ⟨k_1, by omega, ⟨tab [(0, .d (.slice (p0.map (eL eRow)))), (1, pI k1), (5, .own 0 (v5_5.map (eL eRow))), (6, pI (v6 + (1 : Int)))], tabH [.spare 1 v5_5.length], 1, []⟩, View.mk 1 [0] _ _ _ rfl rfl (by decide) (iC (iC (iC (iC trivial)))) (And.intro rfl trivial) rfl zL rfl, v5_5, (v6 + (1 : Int)), by omega, jG h, rfl⟩
  · replace h := bGF h hb_2
    refine QW.exit zL (thX (thX (exE (nrm ?_))))
    refine sR ?_
    refine xm 42 (.own 0 (v5_2.map (eL eRow))) ?_
    refine xz 4 (.own 0 (v5_2.map (eL eRow))) ?_
    refine QW.ret zL ?_
    obtain rfl := sG h
    exact Ends.one (.inr rfl) rfl (ResIs.tmp rfl) rfl rfl
inductive C_ref16_Bytes where
  | S
  | L1 (v3 : (List UInt8)) (v4 : Int)
noncomputable def step_ref16_Bytes (k0 : (Arr 32 UInt8)) : C_ref16_Bytes → Option (C_ref16_Bytes ⊕ (List UInt8))
  | .S =>
    some (.inl (.L1 ([] : List UInt8) (0)))
  | .L1 v3 v4 =>
    (bif (decide (v4 < (32 : Int))) then
    gO (0 ≤ v4 ∧ v4 < ((32 : Nat) : Int)) (
    gO (v3.length + ([(idx k0.1 v4)] : List UInt8).length ≤ 9223372036854775807) (
    gO (inI (v4 + (1 : Int))) (
    some (.inl (.L1 (v3 ++ ([(idx k0.1 v4)] : List UInt8)) (v4 + (1 : Int)))))))
    else
    some (.inr v3))
noncomputable def g_ref16_Bytes (k0 : (Arr 32 UInt8)) : Option (List UInt8) := theC (step_ref16_Bytes k0) .S
theorem sim_ref16_Bytes (k0 : (Arr 32 UInt8)) (r : (List UInt8)) (h : g_ref16_Bytes k0 = some r) : Fun Try.prog 88 [.agg (k0.1.map byteD)] (.val (sV r)) := by
  refine Fun.of_bodyQ Try.func88 rfl (by simp [Try.ntmps88]) ?_
  rw [Try.ntmps88, TT.res_88]
  refine QW.view (s' := ⟨tab [(0, .d (.agg (k0.1.map byteD)))], tabH [], 0, []⟩) (View.init (by rfl)) zL ?_
  replace h := theC_get h
  obtain ⟨_, h⟩ := h
  obtain ⟨k_0, rfl, h9⟩ := run_succ h; replace h := h9; clear h9; rw [step_ref16_Bytes] at h
  refine sR ?_
  refine XK.fz (some 1) rfl rfl (sf_boxF (ds := k0.1.map byteD) rfl rfl rfl rfl toDs_map ?_)
  refine xz 2 (pS ([] : List UInt8)) ?_
  refine sR ?_
  refine xz 3 (pS ([] : List UInt8)) ?_
  refine QW.seq ?_
  refine sR ?_
  refine xz 4 (pI (0)) ?_
  refine QW.block ?_
  refine QW.loop (fun k σ => ∃ v3 : (List UInt8), ∃ v4 : Int, k ≤ k_0 ∧ run (step_ref16_Bytes k0) k (.L1 v3 v4) = some r ∧ σ = ⟨tab [(1, .d (.cptr (k0.1.map byteD))), (3, pS v3), (4, pI v4)], tabH [], 0, []⟩) k_0 zL ⟨⟨tab [(1, .d (.cptr (k0.1.map byteD))), (3, pS ([] : List UInt8)), (4, pI (0))], tabH [], 0, []⟩, View.mk 0 [] _ _ _ rfl rfl (by decide) (iC (iC (iC trivial))) trivial rfl zL rfl, ([] : List UInt8), 0, Nat.le_refl _, jG h, rfl⟩ ?_
  rintro k_1s _ ⟨v3, v4, k_1h, h, rfl⟩
  obtain ⟨k_1, rfl, h9⟩ := run_succ h; replace h := h9; clear h9; rw [step_ref16_Bytes] at h
  refine QW.seq ?_
  refine sR ?_
  refine xm 5 (pI v4) ?_
  refine xs 6 rfl (sf_lss (a := v4) (b := (32 : Int)) rfl rfl rfl ?_)
  refine XK.nz ?_
  refine QW.cond (t := (decide (v4 < (32 : Int)))) rfl zL (fun hb_2 => ?_) (fun hb_2 => ?_)
  · replace h := bGT h hb_2
    refine QW.skip zL (nrm ?_)
    refine QW.seq ?_
    refine QW.block ?_
    refine rG ?_
    refine xm 9 (pS v3) ?_
    refine xm 10 (pI v4) ?_
    obtain ⟨c_3, h⟩ := gG h
    refine xs 11 rfl (sf_idxC (i := v4) rfl TT.slcA_117 TT.arrA_117 rfl rfl c_3 ?_)
    refine xs 12 rfl (sf_ldC (d := .val (.int .u8 ((idx k0.1 v4).toNat : Int))) rfl TT.tyA_5 rfl (ld_arr (Pre.all _) c_3) ?_)
    refine xs 13 rfl (sf_row (en := byteD) (l := ([(idx k0.1 v4)] : List UInt8)) rfl TT.rowA_49 lay_byte rfl rfl (by decide) (by simp [solids, partsP, evP, ofVal, PV.solid, putS_at, tab, unS, unT, unC, asCond, Value.oneCell']) ?_)
    refine xs 14 rfl (sf_b2s (l := ([(idx k0.1 v4)] : List UInt8)) rfl TT.under_49 TT.under_5 TT.under_9 rfl ?_)
    obtain ⟨c_4, h⟩ := gG h
    refine xs 15 rfl (sf_cat (a := v3) (b := ([(idx k0.1 v4)] : List UInt8)) rfl rfl rfl c_4 ?_)
    refine xa 3 (pS (v3 ++ ([(idx k0.1 v4)] : List UInt8))) ?_
    refine XK.nil (blN (nrm ?_))
    refine rG ?_
    refine xm 7 (pI v4) ?_
    obtain ⟨c_5, h⟩ := gG h
    refine xs 8 rfl (sf_add (a := v4) (b := (1 : Int)) rfl rfl rfl c_5 ?_)
    refine xz 4 (pI (v4 + (1 : Int))) ?_
    exact ⟨k_1, by omega, ⟨tab [(1, .d (.cptr (k0.1.map byteD))), (3, pS (v3 ++ ([(idx k0.1 v4)] : List UInt8))), (4, pI (v4 + (1 : Int)))], tabH [], 0, []⟩, View.mk 0 [] _ _ _ rfl rfl (by decide) (iC (iC (iC trivial))) trivial rfl zL rfl, (v3 ++ ([(idx k0.1 v4)] : List UInt8)), (v4 + (1 : Int)), by omega, jG h, rfl⟩
  · replace h := bGF h hb_2
    refine QW.exit zL (thX (thX (exE (nrm ?_))))
    refine sR ?_
    refine xm 16 (pS v3) ?_
    refine xz 2 (pS v3) ?_
    refine QW.ret zL ?_
    obtain rfl := sG h
    exact Ends.one (.inr rfl) rfl (ResIs.tmp rfl) rfl rfl
noncomputable def g_ref47_Less (a0 : Row) (b1 : Row) : Option Bool :=
    ((g_ref16_Bytes (a0.fSum)).bind fun (x_1 : (List UInt8)) =>
    ((g_ref16_Bytes (b1.fSum)).bind fun (x_3 : (List UInt8)) =>
    (bif (!(x_1 == x_3)) then
    some (Op.bytesLess x_1 x_3)
    else
    some (decide ((a0.fEpoch) < (b1.fEpoch))))))
theorem sim_ref47_Less (a0 : Row) (b1 : Row) (r : Bool) (h : g_ref47_Less a0 b1 = some r) : Fun Try.prog 28 [.agg (cRow a0), .agg (cRow b1)] (.val (.bool r)) := by
  refine Fun.of_bodyQ Try.func28 rfl (by simp [Try.ntmps28]) ?_
  rw [Try.ntmps28, TT.res_28]
  refine QW.view (s' := ⟨tab [(0, .d (.agg (cRow a0))), (1, .d (.agg (cRow b1)))], tabH [], 0, []⟩) (View.init (by rfl)) zL ?_
  unfold g_ref47_Less at h
  refine sR ?_
  refine XK.fz (some 2) rfl rfl (sf_boxF (ds := cRow a0) rfl rfl rfl rfl toDs_map ?_)
  refine XK.fz (some 3) rfl rfl (sf_boxF (ds := cRow b1) rfl rfl rfl rfl toDs_map ?_)
  refine xz 4 (pB false) ?_
  refine sR ?_
  refine xs 7 rfl (sf_fldC rfl TT.fldA_37_0 (by decide) rfl ?_)
  refine xs 8 rfl (sf_ldC (d := .agg ((a0.fSum).1.map byteD)) rfl TT.tyA_35 rfl (ldc_Row_0 _) ?_)
  obtain ⟨x_1, hx_2, h⟩ := bO h
  refine xs 9 rfl (sf_call rfl rfl TT.enters_88 rfl (sim_ref16_Bytes (a0.fSum) _ hx_2) ?_)
  refine xz 5 (pS x_1) ?_
  refine sR ?_
  refine xs 10 rfl (sf_fldC rfl TT.fldA_37_0 (by decide) rfl ?_)
  refine xs 11 rfl (sf_ldC (d := .agg ((b1.fSum).1.map byteD)) rfl TT.tyA_35 rfl (ldc_Row_0 _) ?_)
  obtain ⟨x_3, hx_4, h⟩ := bO h
  refine xs 12 rfl (sf_call rfl rfl TT.enters_88 rfl (sim_ref16_Bytes (b1.fSum) _ hx_4) ?_)
  refine xz 6 (pS x_3) ?_
  refine QW.seq ?_
  refine sR ?_
  refine xm 13 (pS x_1) ?_
  refine xm 14 (pS x_3) ?_
  refine xs 15 rfl (sf_sne (a := x_1) (b := x_3) rfl rfl rfl ?_)
  refine XK.nz ?_
  refine QW.cond (t := (!(x_1 == x_3))) rfl zL (fun hb_5 => ?_) (fun hb_5 => ?_)
  · replace h := bT h hb_5
    refine sR ?_
    refine xm 16 (pS x_1) ?_
    refine xm 17 (pS x_3) ?_
    refine xs 18 rfl (sf_slt (a := x_1) (b := x_3) rfl rfl rfl ?_)
    refine xz 4 (pB (Op.bytesLess x_1 x_3)) ?_
    refine QW.ret zL (thR ?_)
    obtain rfl := sO h
    exact Ends.one (.inr rfl) rfl (ResIs.tmp rfl) rfl rfl
  · replace h := bF h hb_5
    refine QW.skip zL (nrm ?_)
    refine sR ?_
    refine xs 19 rfl (sf_fldC rfl TT.fldA_37_1 (by decide) rfl ?_)
    refine xs 20 rfl (sf_ldC (d := .val (.int .i64 (a0.fEpoch))) rfl TT.tyA_3 rfl (ldc_Row_1 _) ?_)
    refine xs 21 rfl (sf_fldC rfl TT.fldA_37_1 (by decide) rfl ?_)
    refine xs 22 rfl (sf_ldC (d := .val (.int .i64 (b1.fEpoch))) rfl TT.tyA_3 rfl (ldc_Row_1 _) ?_)
    refine xs 23 rfl (sf_lss (a := (a0.fEpoch)) (b := (b1.fEpoch)) rfl rfl rfl ?_)
    refine xz 4 (pB (decide ((a0.fEpoch) < (b1.fEpoch)))) ?_
    refine QW.ret zL ?_
    obtain rfl := sO h
    exact Ends.one (.inr rfl) rfl (ResIs.tmp rfl) rfl rfl
inductive C_ref47_Rises where
  | S
  | L1 (v3 : Int)
noncomputable def step_ref47_Rises (l0 : (List Row)) : C_ref47_Rises → Option (C_ref47_Rises ⊕ Bool)
  | .S =>
    some (.inl (.L1 (1)))
  | .L1 v3 =>
    (bif (decide (v3 < (l0.length : Int))) then
    gO (inI (v3 - (1 : Int))) (
    gO (0 ≤ (v3 - (1 : Int)) ∧ (v3 - (1 : Int)) < (l0.length : Int)) (
    gO (0 ≤ v3 ∧ v3 < (l0.length : Int)) (
    ((g_ref47_Less (idx l0 (v3 - (1 : Int))) (idx l0 v3)).bind fun (x_6 : Bool) =>
    (bif (!x_6) then
    some (.inr false)
    else
    gO (inI (v3 + (1 : Int))) (
    some (.inl (.L1 (v3 + (1 : Int))))))))))
    else
    some (.inr true))
noncomputable def g_ref47_Rises (l0 : (List Row)) : Option Bool := theC (step_ref47_Rises l0) .S
inductive C_ref47_May where
  | S
  | L1 (v3 : Int)
noncomputable def step_ref47_May (l0 : (List Row)) : C_ref47_May → Option (C_ref47_May ⊕ Bool)
  | .S =>
    some (.inl (.L1 (0)))
  | .L1 v3 =>
    (bif (decide (v3 < (l0.length : Int))) then
    gO (0 ≤ v3 ∧ v3 < (l0.length : Int)) (
    gO ((decide (((idx l0 v3).fEpoch) < (0 : Int))) = false → 0 ≤ v3 ∧ v3 < (l0.length : Int)) (
    gO (((decide (((idx l0 v3).fEpoch) < (0 : Int))) || (decide ((1048576 : Int) < ((idx l0 v3).fEpoch)))) = false → 0 ≤ v3 ∧ v3 < (l0.length : Int)) (
    (bif (((decide (((idx l0 v3).fEpoch) < (0 : Int))) || (decide ((1048576 : Int) < ((idx l0 v3).fEpoch)))) || (decide ((70000 : Int) < (((idx l0 v3).fBody).length : Int)))) then
    some (.inr false)
    else
    gO (inI (v3 + (1 : Int))) (
    some (.inl (.L1 (v3 + (1 : Int)))))))))
    else
    ((bif ((decide ((l0.length : Int) ≤ (8 : Int))) == true) then g_ref47_Rises l0 else some default).bind fun (x_8 : Bool) =>
    some (.inr ((decide ((l0.length : Int) ≤ (8 : Int))) && x_8))))
noncomputable def g_ref47_May (l0 : (List Row)) : Option Bool := theC (step_ref47_May l0) .S
inductive C_ref48_At where
  | S
  | L1 (v5_3 : Int) (v6_3 : Int)
noncomputable def step_ref48_At (p0 : (List (List Row))) (r1 : Row) : C_ref48_At → Option (C_ref48_At ⊕ Int)
  | .S =>
    some (.inl (.L1 (0) (0)))
  | .L1 v5_3 v6_3 =>
    (bif (decide (v6_3 < (p0.length : Int))) then
    ((gO (0 ≤ v6_3 ∧ v6_3 < (p0.length : Int)) (
    gO (0 ≤ (0 : Int) ∧ (0 : Int) < ((idx p0 v6_3).length : Int)) (
    ((g_ref47_Less r1 (idx (idx p0 v6_3) (0 : Int))).bind fun (x_5 : Bool) =>
    (bif (!x_5) then
    some v6_3
    else
    some v5_3)))) : Option Int).bind fun (v5_6 : Int) =>
    gO (inI (v6_3 + (1 : Int))) (
    some (.inl (.L1 v5_6 (v6_3 + (1 : Int))))))
    else
    some (.inr v5_3))
noncomputable def g_ref48_At (p0 : (List (List Row))) (r1 : Row) : Option Int := theC (step_ref48_At p0 r1) .S
theorem sim_ref48_At (p0 : (List (List Row))) (r1 : Row) (r : Int) (h : g_ref48_At p0 r1 = some r) : Fun Try.prog 125 [.slice (p0.map (eL eRow)), .agg (cRow r1)] (.val (.int .i64 r)) := by
  refine Fun.of_bodyQ Try.func125 rfl (by simp [Try.ntmps125]) ?_
  rw [Try.ntmps125, TT.res_125]
  refine QW.view (s' := ⟨tab [(0, .d (.slice (p0.map (eL eRow)))), (1, .d (.agg (cRow r1)))], tabH [], 0, []⟩) (View.init (by rfl)) zL ?_
  replace h := theC_get h
  obtain ⟨_, h⟩ := h
  obtain ⟨k_0, rfl, h9⟩ := run_succ h; replace h := h9; clear h9; rw [step_ref48_At] at h
  refine sR ?_
  refine XK.fz (some 3) rfl rfl (sf_boxF (ds := cRow r1) rfl rfl rfl rfl toDs_map ?_)
  refine xz 4 (pI (0)) ?_
  refine sR ?_
  refine xz 5 (pI (0)) ?_
  refine QW.seq ?_
  refine sR ?_
  refine xz 6 (pI (0)) ?_
  refine QW.block ?_
  refine QW.loop (fun k σ => ∃ v5_3 : Int, ∃ v6_3 : Int, k ≤ k_0 ∧ run (step_ref48_At p0 r1) k (.L1 v5_3 v6_3) = some r ∧ σ = ⟨tab [(0, .d (.slice (p0.map (eL eRow)))), (3, .d (.cptr (cRow r1))), (5, pI v5_3), (6, pI v6_3)], tabH [], 0, []⟩) k_0 zL ⟨⟨tab [(0, .d (.slice (p0.map (eL eRow)))), (3, .d (.cptr (cRow r1))), (5, pI (0)), (6, pI (0))], tabH [], 0, []⟩, View.mk 0 [] _ _ _ rfl rfl (by decide) (iC (iC (iC (iC trivial)))) trivial rfl zL rfl, 0, 0, Nat.le_refl _, jG h, rfl⟩ ?_
  rintro k_1s _ ⟨v5_3, v6_3, k_1h, h, rfl⟩
  obtain ⟨k_1, rfl, h9⟩ := run_succ h; replace h := h9; clear h9; rw [step_ref48_At] at h
  refine QW.seq ?_
  refine sR ?_
  refine xm 7 (pI v6_3) ?_
  refine xm 8 (.d (.slice (p0.map (eL eRow)))) ?_
  refine xs 9 rfl (sf_lenL (en := (eL eRow)) (l := p0) rfl TT.under_72 rfl ?_)
  refine xs 10 rfl (sf_lss (a := v6_3) (b := (p0.length : Int)) rfl rfl rfl ?_)
  refine XK.nz ?_
  refine QW.cond (t := (decide (v6_3 < (p0.length : Int)))) rfl zL (fun hb_2 => ?_) (fun hb_2 => ?_)
  · replace h := bGT h hb_2
    refine QW.skip zL (nrm ?_)
    obtain ⟨v5_6, hq, h⟩ := bG h
    refine QW.seqI (fun s' => s' = ⟨tab [(0, .d (.slice (p0.map (eL eRow)))), (3, .d (.cptr (cRow r1))), (5, pI v5_6), (6, pI v6_3)], tabH [], 0, []⟩) ?_ ?_
    · replace h := hq; clear hq
      refine QW.block ?_
      refine QW.seq ?_
      refine QW.region zL (PW.regQ (id := 5) mixedX (M := _) rfl (by kernel_rfl) ?_)
      refine RQ.st (some 13) rfl rfl (sf_ldC (d := .agg (cRow r1)) rfl TT.tyA_37 rfl (⟨by rw [lay_Row.len]; decide, congrArg D.agg (List.take_of_length_le (by rw [lay_Row.len]; decide))⟩) ⟨⟨rfl, rfl⟩, ?_⟩)
      refine RQ.st (some 14) rfl rfl (sf_move (v := .d (.slice (p0.map (eL eRow)))) rfl rfl ⟨⟨rfl, rfl⟩, ?_⟩)
      refine RQ.st (some 15) rfl rfl (sf_move (v := pI v6_3) rfl rfl ⟨⟨rfl, rfl⟩, ?_⟩)
      obtain ⟨c_3, h⟩ := gO_get h
      refine RQ.st (some 16) rfl rfl (sf_idxA (l := p0) (i := v6_3) rfl TT.slcA_72 lay_L rfl rfl c_3 ⟨⟨rfl, rfl⟩, ?_⟩)
      refine RQ.st (some 17) rfl rfl (sf_ldC (d := .slice ((idx p0 v6_3).map eRow)) rfl TT.tyA_22 rfl (LdC.one) ⟨⟨rfl, rfl⟩, ?_⟩)
      obtain ⟨c_4, h⟩ := gO_get h
      refine RQ.st (some 18) rfl rfl (sf_idxA (l := (idx p0 v6_3)) (i := (0 : Int)) rfl TT.slcA_22 lay_Row rfl rfl c_4 ⟨⟨rfl, rfl⟩, ?_⟩)
      refine RQ.st (some 19) rfl rfl (sf_ldC (d := .agg (cRow (idx (idx p0 v6_3) (0 : Int)))) rfl TT.tyA_37 rfl (⟨by rw [lay_Row.len]; decide, congrArg D.agg (List.take_of_length_le (by rw [lay_Row.len]; decide))⟩) ⟨⟨rfl, rfl⟩, ?_⟩)
      obtain ⟨x_5, hx_6, h⟩ := bO h
      refine RQ.st (some 20) rfl rfl (sf_call rfl rfl TT.enters_28 rfl (sim_ref47_Less r1 (idx (idx p0 v6_3) (0 : Int)) _ hx_6) ⟨⟨rfl, rfl⟩, ?_⟩)
      refine RQ.st (some 21) rfl rfl (sf_not rfl rfl ⟨⟨rfl, rfl⟩, ?_⟩)
      refine RQ.nil (nrm ?_)
      refine QW.cond (t := (!x_5)) rfl zL (fun hb_7 => ?_) (fun hb_7 => ?_)
      · replace h := bT h hb_7
        refine rG ?_
        refine xm 22 (pI v6_3) ?_
        refine xa 5 (pI v6_3) ?_
        refine XK.nil (blN (nrm ?_))
        obtain rfl := sO h
        exact ⟨⟨tab [(0, .d (.slice (p0.map (eL eRow)))), (3, .d (.cptr (cRow r1))), (5, pI v6_3), (6, pI v6_3)], tabH [], 0, []⟩, View.mk 0 [] _ _ _ rfl rfl (by decide) (iC (iC (iC (iC trivial)))) trivial rfl zL rfl, rfl⟩
      · replace h := bF h hb_7
        refine QW.skip zL (blN (nrm ?_))
        obtain rfl := sO h
        exact ⟨⟨tab [(0, .d (.slice (p0.map (eL eRow)))), (3, .d (.cptr (cRow r1))), (5, pI v5_3), (6, pI v6_3)], tabH [], 0, []⟩, View.mk 0 [] _ _ _ rfl rfl (by decide) (iC (iC (iC (iC trivial)))) trivial rfl zL rfl, rfl⟩
    · rintro _ rfl
      refine rG ?_
      refine xm 11 (pI v6_3) ?_
      obtain ⟨c_8, h⟩ := gG h
      refine xs 12 rfl (sf_add (a := v6_3) (b := (1 : Int)) rfl rfl rfl c_8 ?_)
      refine xz 6 (pI (v6_3 + (1 : Int))) ?_
      exact ⟨k_1, by omega, ⟨tab [(0, .d (.slice (p0.map (eL eRow)))), (3, .d (.cptr (cRow r1))), (5, pI v5_6), (6, pI (v6_3 + (1 : Int)))], tabH [], 0, []⟩, View.mk 0 [] _ _ _ rfl rfl (by decide) (iC (iC (iC (iC trivial)))) trivial rfl zL rfl, v5_6, (v6_3 + (1 : Int)), by omega, jG h, rfl⟩
  · replace h := bGF h hb_2
    refine QW.exit zL (thX (thX (exE (nrm ?_))))
    refine sR ?_
    refine xm 23 (pI v5_3) ?_
    refine xz 4 (pI v5_3) ?_
    refine QW.ret zL ?_
    obtain rfl := sG h
    exact Ends.one (.inr rfl) rfl (ResIs.tmp rfl) rfl rfl
inductive C_ref47_Sort where
  | S
  | L1 (v3_2 : (List Row)) (v4 : Int)
  | L3 (v3_13 : (List Row)) (v4_12 : Int) (v5_7 : Int)
  | J2 (v3_11 : (List Row)) (v4_10 : Int)
noncomputable def step_ref47_Sort (l0 : (List Row)) : C_ref47_Sort → Option (C_ref47_Sort ⊕ (List Row))
  | .S =>
    some (.inl (.L1 ([] : (List Row)) (0)))
  | .L1 v3_2 v4 =>
    (bif (decide (v4 < (l0.length : Int))) then
    some (.inl (.L3 v3_2 v4 (0)))
    else
    some (.inr v3_2))
  | .L3 v3_13 v4_12 v5_7 =>
    gO ((decide (v5_7 < (v3_13.length : Int))) = true → 0 ≤ v5_7 ∧ v5_7 < (v3_13.length : Int)) (
    gO ((decide (v5_7 < (v3_13.length : Int))) = true → 0 ≤ v4_12 ∧ v4_12 < (l0.length : Int)) (
    ((bif ((decide (v5_7 < (v3_13.length : Int))) == true) then g_ref47_Less (idx v3_13 v5_7) (idx l0 v4_12) else some default).bind fun (x_6 : Bool) =>
    (bif ((decide (v5_7 < (v3_13.length : Int))) && x_6) then
    gO (inI (v5_7 + (1 : Int))) (
    some (.inl (.L3 v3_13 v4_12 (v5_7 + (1 : Int)))))
    else
    gO ((decide (v5_7 < (v3_13.length : Int))) = true → 0 ≤ v5_7 ∧ v5_7 < (v3_13.length : Int)) (
    gO ((decide (v5_7 < (v3_13.length : Int))) = true → 0 ≤ v4_12 ∧ v4_12 < (l0.length : Int)) (
    gO ((((decide (v5_7 < (v3_13.length : Int))) && (((idx v3_13 v5_7).fSum).1 == ((idx l0 v4_12).fSum).1)) == true) = true → 0 ≤ v5_7 ∧ v5_7 < (v3_13.length : Int)) (
    gO ((((decide (v5_7 < (v3_13.length : Int))) && (((idx v3_13 v5_7).fSum).1 == ((idx l0 v4_12).fSum).1)) == true) = true → 0 ≤ v4_12 ∧ v4_12 < (l0.length : Int)) (
    (bif (((decide (v5_7 < (v3_13.length : Int))) && (((idx v3_13 v5_7).fSum).1 == ((idx l0 v4_12).fSum).1)) && (decide (((idx v3_13 v5_7).fEpoch) = ((idx l0 v4_12).fEpoch)))) then
    some (.inl (.J2 v3_13 v4_12))
    else
    gO (0 ≤ (0 : Int) ∧ (0 : Int) ≤ v5_7 ∧ v5_7 ≤ (v3_13.length : Int)) (
    gO ((([] : List Row).length + (sub v3_13 (0 : Int) v5_7).length) * 56 ≤ 140737488355328) (
    gO (0 ≤ v4_12 ∧ v4_12 < (l0.length : Int)) (
    gO (((([] : List Row) ++ (sub v3_13 (0 : Int) v5_7)).length + ([(idx l0 v4_12)] : List Row).length) * 56 ≤ 140737488355328) (
    gO (0 ≤ v5_7 ∧ v5_7 ≤ (v3_13.length : Int) ∧ (v3_13.length : Int) ≤ (v3_13.length : Int)) (
    gO ((((([] : List Row) ++ (sub v3_13 (0 : Int) v5_7)) ++ ([(idx l0 v4_12)] : List Row)).length + (sub v3_13 v5_7 (v3_13.length : Int)).length) * 56 ≤ 140737488355328) (
    some (.inl (.J2 (((([] : List Row) ++ (sub v3_13 (0 : Int) v5_7)) ++ ([(idx l0 v4_12)] : List Row)) ++ (sub v3_13 v5_7 (v3_13.length : Int))) v4_12)))))))))))))))))
  | .J2 v3_11 v4_10 =>
    gO (inI (v4_10 + (1 : Int))) (
    some (.inl (.L1 v3_11 (v4_10 + (1 : Int)))))
noncomputable def g_ref47_Sort (l0 : (List Row)) : Option (List Row) := theC (step_ref47_Sort l0) .S
theorem sim_ref47_Sort (l0 : (List Row)) (r : (List Row)) (h : g_ref47_Sort l0 = some r) : Fun Try.prog 24 [.slice (l0.map eRow)] (.slice (r.map eRow)) := by
  refine Fun.of_bodyQ Try.func24 rfl (by simp [Try.ntmps24]) ?_
  rw [Try.ntmps24, TT.res_24]
  refine QW.view (s' := ⟨tab [(0, .d (.slice (l0.map eRow)))], tabH [], 0, []⟩) (View.init (by rfl)) zL ?_
  replace h := theC_get h
  obtain ⟨_, h⟩ := h
  obtain ⟨k_0, rfl, h9⟩ := run_succ h; replace h := h9; clear h9; rw [step_ref47_Sort] at h
  refine sR ?_
  refine xz 2 (.full (([] : (List Row)).map eRow)) ?_
  refine sR ?_
  refine xz 3 (.full (([] : (List Row)).map eRow)) ?_
  refine QW.seq ?_
  refine sR ?_
  refine xz 4 (pI (0)) ?_
  refine QW.block ?_
  refine QW.loop (fun k σ => ∃ v3_2 : (List Row), ∃ v4 : Int, k ≤ k_0 ∧ run (step_ref47_Sort l0) k (.L1 v3_2 v4) = some r ∧ σ = ⟨tab [(0, .d (.slice (l0.map eRow))), (3, .own 0 (v3_2.map eRow)), (4, pI v4)], tabH [.spare 34 v3_2.length], 1, []⟩) k_0 zL ⟨⟨tab [(0, .d (.slice (l0.map eRow))), (3, .own 0 (([] : (List Row)).map eRow)), (4, pI (0))], tabH [.spare 34 ([] : (List Row)).length], 1, []⟩, View.trans (View.buf 3 34 rfl zL) (View.mk 1 [0] _ _ _ rfl rfl (by decide) (iC (iC (iC trivial))) (And.intro rfl trivial) rfl zL rfl), ([] : (List Row)), 0, Nat.le_refl _, jG h, rfl⟩ ?_
  rintro k_1s _ ⟨v3_2, v4, k_1h, h, rfl⟩
  obtain ⟨k_1, rfl, h9⟩ := run_succ h; replace h := h9; clear h9; rw [step_ref47_Sort] at h
  refine QW.seq ?_
  refine sR ?_
  refine xm 7 (pI v4) ?_
  refine xm 8 (.d (.slice (l0.map eRow))) ?_
  refine xs 9 rfl (sf_lenL (en := eRow) (l := l0) rfl TT.under_22 rfl ?_)
  refine xs 10 rfl (sf_lss (a := v4) (b := (l0.length : Int)) rfl rfl rfl ?_)
  refine XK.nz ?_
  refine QW.cond (t := (decide (v4 < (l0.length : Int)))) rfl zL (fun hb_2 => ?_) (fun hb_2 => ?_)
  · replace h := bGT h hb_2
    refine QW.skip zL (nrm ?_)
    refine QW.seqI (fun s' => ∃ v3_11 : (List Row), ∃ v4_10 : Int, ∃ k : Nat, k ≤ k_1 ∧ run (step_ref47_Sort l0) k (.J2 v3_11 v4_10) = some r ∧ s' = ⟨tab [(0, .d (.slice (l0.map eRow))), (3, .own 0 (v3_11.map eRow)), (4, pI v4_10)], tabH [.spare 34 v3_11.length], 1, []⟩) ?_ ?_
    · refine QW.block ?_
      refine sR ?_
      refine xz 5 (pI (0)) ?_
      refine QW.seq ?_
      refine QW.block ?_
      refine QW.loop (fun k σ => ∃ v3_13 : (List Row), ∃ v4_12 : Int, ∃ v5_7 : Int, k ≤ k_1 ∧ run (step_ref47_Sort l0) k (.L3 v3_13 v4_12 v5_7) = some r ∧ σ = ⟨tab [(0, .d (.slice (l0.map eRow))), (3, .own 0 (v3_13.map eRow)), (4, pI v4_12), (5, pI v5_7)], tabH [.spare 34 v3_13.length], 1, []⟩) k_1 zL ⟨⟨tab [(0, .d (.slice (l0.map eRow))), (3, .own 0 (v3_2.map eRow)), (4, pI v4), (5, pI (0))], tabH [.spare 34 v3_2.length], 1, []⟩, View.mk 1 [0] _ _ _ rfl rfl (by decide) (iC (iC (iC (iC trivial)))) (And.intro rfl trivial) rfl zL rfl, v3_2, v4, 0, Nat.le_refl _, jG h, rfl⟩ ?_
      rintro k_3s _ ⟨v3_13, v4_12, v5_7, k_3h, h, rfl⟩
      obtain ⟨k_3, rfl, h9⟩ := run_succ h; replace h := h9; clear h9; rw [step_ref47_Sort] at h
      refine QW.seq ?_
      refine QW.seq ?_
      refine QW.region zL (PW.regQ (id := 6) mixedX (M := _) rfl (by kernel_rfl) ?_)
      refine RQ.st (some 13) rfl rfl (sf_move (v := pI v5_7) rfl rfl ⟨⟨rfl, rfl⟩, ?_⟩)
      refine RQ.st (some 14) rfl rfl (sf_move (v := .own 0 (v3_13.map eRow)) rfl rfl ⟨⟨rfl, rfl⟩, ?_⟩)
      refine RQ.st (some 15) rfl rfl (sf_lenL (en := eRow) (l := v3_13) rfl TT.under_22 rfl ⟨⟨rfl, rfl⟩, ?_⟩)
      refine RQ.st (some 16) rfl rfl (sf_lss (a := v5_7) (b := (v3_13.length : Int)) rfl rfl rfl ⟨⟨rfl, rfl⟩, ?_⟩)
      refine RQ.st (some 17) rfl rfl (sf_move (v := pB (decide (v5_7 < (v3_13.length : Int)))) rfl rfl ⟨⟨rfl, rfl⟩, ?_⟩)
      refine RQ.gd (v := .own 0 (v3_13.map eRow)) (T := []) (some 18) rfl rfl (by repeat (first | exact trivial | refine ⟨fun q => by first | rfl | exact q | exact cda q | exact cdb q, ?_⟩)) (fun hg => sf_move (v := .own 0 (v3_13.map eRow)) rfl rfl g3) nm0 ?_
      refine RQ.gd (v := pI v5_7) (T := []) (some 19) rfl rfl (by repeat (first | exact trivial | refine ⟨fun q => by first | rfl | exact q | exact cda q | exact cdb q, ?_⟩)) (fun hg => sf_move (v := pI v5_7) rfl rfl g3) nm0 ?_
      obtain ⟨c_4, h⟩ := gG h
      refine RQ.gd (v := .d (.cptr (cRow (idx v3_13 v5_7)))) (T := []) (some 20) rfl rfl (by repeat (first | exact trivial | refine ⟨fun q => by first | rfl | exact q | exact cda q | exact cdb q, ?_⟩)) (fun hg => sf_idxA (l := v3_13) (i := v5_7) rfl TT.slcA_22 lay_Row rfl rfl (c_4 (eqB hg)) g3) nm0 ?_
      refine RQ.gd (v := .d (.agg (cRow (idx v3_13 v5_7)))) (T := []) (some 21) rfl rfl (by repeat (first | exact trivial | refine ⟨fun q => by first | rfl | exact q | exact cda q | exact cdb q, ?_⟩)) (fun hg => sf_ldC (d := .agg (cRow (idx v3_13 v5_7))) rfl TT.tyA_37 rfl (⟨by rw [lay_Row.len]; decide, congrArg D.agg (List.take_of_length_le (by rw [lay_Row.len]; decide))⟩) g3) nm0 ?_
      refine RQ.gd (v := .d (.slice (l0.map eRow))) (T := []) (some 22) rfl rfl (by repeat (first | exact trivial | refine ⟨fun q => by first | rfl | exact q | exact cda q | exact cdb q, ?_⟩)) (fun hg => sf_move (v := .d (.slice (l0.map eRow))) rfl rfl g3) nm0 ?_
      refine RQ.gd (v := pI v4_12) (T := []) (some 23) rfl rfl (by repeat (first | exact trivial | refine ⟨fun q => by first | rfl | exact q | exact cda q | exact cdb q, ?_⟩)) (fun hg => sf_move (v := pI v4_12) rfl rfl g3) nm0 ?_
      obtain ⟨c_5, h⟩ := gG h
      refine RQ.gd (v := .d (.cptr (cRow (idx l0 v4_12)))) (T := []) (some 24) rfl rfl (by repeat (first | exact trivial | refine ⟨fun q => by first | rfl | exact q | exact cda q | exact cdb q, ?_⟩)) (fun hg => sf_idxA (l := l0) (i := v4_12) rfl TT.slcA_22 lay_Row rfl rfl (c_5 (eqB hg)) g3) nm0 ?_
      refine RQ.gd (v := .d (.agg (cRow (idx l0 v4_12)))) (T := []) (some 25) rfl rfl (by repeat (first | exact trivial | refine ⟨fun q => by first | rfl | exact q | exact cda q | exact cdb q, ?_⟩)) (fun hg => sf_ldC (d := .agg (cRow (idx l0 v4_12))) rfl TT.tyA_37 rfl (⟨by rw [lay_Row.len]; decide, congrArg D.agg (List.take_of_length_le (by rw [lay_Row.len]; decide))⟩) g3) nm0 ?_
      obtain ⟨x_6, hx_7, h⟩ := bG h
      refine RQ.gd (v := pB x_6) (T := []) (some 26) rfl rfl (by repeat (first | exact trivial | refine ⟨fun q => by first | rfl | exact q | exact cda q | exact cdb q, ?_⟩)) (fun hg => sf_call rfl rfl TT.enters_28 rfl (sim_ref47_Less (idx v3_13 v5_7) (idx l0 v4_12) _ (bT hx_7 hg)) g3) nm0 ?_
      refine RQ.st (some 27) rfl rfl (sf_pickA rfl rfl rfl rfl (fun hb => by rw [hb]; rfl) (fun _ => rfl) ⟨⟨rfl, rfl⟩, ?_⟩)
      refine RQ.nil (nrm ?_)
      refine QW.cond (t := ((decide (v5_7 < (v3_13.length : Int))) && x_6)) rfl zL (fun hb_8 => ?_) (fun hb_8 => ?_)
      · replace h := bGT h hb_8
        refine QW.skip zL (nrm ?_)
        refine QW.block ?_
        refine rG ?_
        refine xm 28 (pI v5_7) ?_
        obtain ⟨c_9, h⟩ := gG h
        refine xs 29 rfl (sf_add (a := v5_7) (b := (1 : Int)) rfl rfl rfl c_9 ?_)
        refine xa 5 (pI (v5_7 + (1 : Int))) ?_
        refine XK.nil (blN (nrm ?_))
        exact ⟨k_3, by omega, ⟨tab [(0, .d (.slice (l0.map eRow))), (3, .own 0 (v3_13.map eRow)), (4, pI v4_12), (5, pI (v5_7 + (1 : Int)))], tabH [.spare 34 v3_13.length], 1, []⟩, View.mk 1 [0] _ _ _ rfl rfl (by decide) (iC (iC (iC (iC trivial)))) (And.intro rfl trivial) rfl zL rfl, v3_13, v4_12, (v5_7 + (1 : Int)), by omega, jG h, rfl⟩
      · replace h := bGF h hb_8
        refine QW.exit zL (thX (thX (exE (nrm ?_))))
        refine QW.seq ?_
        refine QW.seq ?_
        refine QW.region zL (PW.regQ (id := 8) mixedX (M := _) rfl (by kernel_rfl) ?_)
        refine RQ.st (some 30) rfl rfl (sf_move (v := pI v5_7) rfl rfl ⟨⟨rfl, rfl⟩, ?_⟩)
        refine RQ.st (some 31) rfl rfl (sf_move (v := .own 0 (v3_13.map eRow)) rfl rfl ⟨⟨rfl, rfl⟩, ?_⟩)
        refine RQ.st (some 32) rfl rfl (sf_lenL (en := eRow) (l := v3_13) rfl TT.under_22 rfl ⟨⟨rfl, rfl⟩, ?_⟩)
        refine RQ.st (some 33) rfl rfl (sf_lss (a := v5_7) (b := (v3_13.length : Int)) rfl rfl rfl ⟨⟨rfl, rfl⟩, ?_⟩)
        refine RQ.st (some 34) rfl rfl (sf_move (v := pB (decide (v5_7 < (v3_13.length : Int)))) rfl rfl ⟨⟨rfl, rfl⟩, ?_⟩)
        refine RQ.gd (v := .own 0 (v3_13.map eRow)) (T := []) (some 35) rfl rfl (by repeat (first | exact trivial | refine ⟨fun q => by first | rfl | exact q | exact cda q | exact cdb q, ?_⟩)) (fun hg => sf_move (v := .own 0 (v3_13.map eRow)) rfl rfl g3) nm0 ?_
        refine RQ.gd (v := pI v5_7) (T := []) (some 36) rfl rfl (by repeat (first | exact trivial | refine ⟨fun q => by first | rfl | exact q | exact cda q | exact cdb q, ?_⟩)) (fun hg => sf_move (v := pI v5_7) rfl rfl g3) nm0 ?_
        obtain ⟨c_10, h⟩ := gG h
        refine RQ.gd (v := .d (.cptr (cRow (idx v3_13 v5_7)))) (T := []) (some 37) rfl rfl (by repeat (first | exact trivial | refine ⟨fun q => by first | rfl | exact q | exact cda q | exact cdb q, ?_⟩)) (fun hg => sf_idxA (l := v3_13) (i := v5_7) rfl TT.slcA_22 lay_Row rfl rfl (c_10 (eqB hg)) g3) nm0 ?_
        refine RQ.gd (v := .d (.cptr ((cRow (idx v3_13 v5_7)).drop 0))) (T := []) (some 38) rfl rfl (by repeat (first | exact trivial | refine ⟨fun q => by first | rfl | exact q | exact cda q | exact cdb q, ?_⟩)) (fun hg => sf_fldC rfl TT.fldA_37_0 (by decide) rfl g3) nm0 ?_
        refine RQ.gd (v := .d (.agg (((idx v3_13 v5_7).fSum).1.map byteD))) (T := []) (some 39) rfl rfl (by repeat (first | exact trivial | refine ⟨fun q => by first | rfl | exact q | exact cda q | exact cdb q, ?_⟩)) (fun hg => sf_ldC (d := .agg (((idx v3_13 v5_7).fSum).1.map byteD)) rfl TT.tyA_35 rfl (ldc_Row_0 _) g3) nm0 ?_
        refine RQ.gd (v := .d (.slice (l0.map eRow))) (T := []) (some 40) rfl rfl (by repeat (first | exact trivial | refine ⟨fun q => by first | rfl | exact q | exact cda q | exact cdb q, ?_⟩)) (fun hg => sf_move (v := .d (.slice (l0.map eRow))) rfl rfl g3) nm0 ?_
        refine RQ.gd (v := pI v4_12) (T := []) (some 41) rfl rfl (by repeat (first | exact trivial | refine ⟨fun q => by first | rfl | exact q | exact cda q | exact cdb q, ?_⟩)) (fun hg => sf_move (v := pI v4_12) rfl rfl g3) nm0 ?_
        obtain ⟨c_11, h⟩ := gG h
        refine RQ.gd (v := .d (.cptr (cRow (idx l0 v4_12)))) (T := []) (some 42) rfl rfl (by repeat (first | exact trivial | refine ⟨fun q => by first | rfl | exact q | exact cda q | exact cdb q, ?_⟩)) (fun hg => sf_idxA (l := l0) (i := v4_12) rfl TT.slcA_22 lay_Row rfl rfl (c_11 (eqB hg)) g3) nm0 ?_
        refine RQ.gd (v := .d (.cptr ((cRow (idx l0 v4_12)).drop 0))) (T := []) (some 43) rfl rfl (by repeat (first | exact trivial | refine ⟨fun q => by first | rfl | exact q | exact cda q | exact cdb q, ?_⟩)) (fun hg => sf_fldC rfl TT.fldA_37_0 (by decide) rfl g3) nm0 ?_
        refine RQ.gd (v := .d (.agg (((idx l0 v4_12).fSum).1.map byteD))) (T := []) (some 44) rfl rfl (by repeat (first | exact trivial | refine ⟨fun q => by first | rfl | exact q | exact cda q | exact cdb q, ?_⟩)) (fun hg => sf_ldC (d := .agg (((idx l0 v4_12).fSum).1.map byteD)) rfl TT.tyA_35 rfl (ldc_Row_0 _) g3) nm0 ?_
        refine RQ.gd (v := pB (((idx v3_13 v5_7).fSum).1 == ((idx l0 v4_12).fSum).1)) (T := []) (some 45) rfl rfl (by repeat (first | exact trivial | refine ⟨fun q => by first | rfl | exact q | exact cda q | exact cdb q, ?_⟩)) (fun hg => sf_arreq (p := (idx v3_13 v5_7).fSum) (q := (idx l0 v4_12).fSum) rfl TT.arrB_35_32 rfl rfl g3) nm0 ?_
        refine RQ.st (some 46) rfl rfl (sf_pickA rfl rfl rfl rfl (fun hb => by rw [hb]; rfl) (fun _ => rfl) ⟨⟨rfl, rfl⟩, ?_⟩)
        refine RQ.st (some 47) rfl rfl (sf_move (v := pB ((decide (v5_7 < (v3_13.length : Int))) && (((idx v3_13 v5_7).fSum).1 == ((idx l0 v4_12).fSum).1))) rfl rfl ⟨⟨rfl, rfl⟩, ?_⟩)
        refine RQ.gd (v := .own 0 (v3_13.map eRow)) (T := []) (some 48) rfl rfl (by repeat (first | exact trivial | refine ⟨fun q => by first | rfl | exact q | exact cda q | exact cdb q, ?_⟩)) (fun hg => sf_move (v := .own 0 (v3_13.map eRow)) rfl rfl g3) nm0 ?_
        refine RQ.gd (v := pI v5_7) (T := []) (some 49) rfl rfl (by repeat (first | exact trivial | refine ⟨fun q => by first | rfl | exact q | exact cda q | exact cdb q, ?_⟩)) (fun hg => sf_move (v := pI v5_7) rfl rfl g3) nm0 ?_
        obtain ⟨c_12, h⟩ := gG h
        refine RQ.gd (v := .d (.cptr (cRow (idx v3_13 v5_7)))) (T := []) (some 50) rfl rfl (by repeat (first | exact trivial | refine ⟨fun q => by first | rfl | exact q | exact cda q | exact cdb q, ?_⟩)) (fun hg => sf_idxA (l := v3_13) (i := v5_7) rfl TT.slcA_22 lay_Row rfl rfl (c_12 hg) g3) nm0 ?_
        refine RQ.gd (v := .d (.cptr ((cRow (idx v3_13 v5_7)).drop 32))) (T := []) (some 51) rfl rfl (by repeat (first | exact trivial | refine ⟨fun q => by first | rfl | exact q | exact cda q | exact cdb q, ?_⟩)) (fun hg => sf_fldC rfl TT.fldA_37_1 (by decide) rfl g3) nm0 ?_
        refine RQ.gd (v := pI ((idx v3_13 v5_7).fEpoch)) (T := []) (some 52) rfl rfl (by repeat (first | exact trivial | refine ⟨fun q => by first | rfl | exact q | exact cda q | exact cdb q, ?_⟩)) (fun hg => sf_ldC (d := .val (.int .i64 ((idx v3_13 v5_7).fEpoch))) rfl TT.tyA_3 rfl (ldc_Row_1 _) g3) nm0 ?_
        refine RQ.gd (v := .d (.slice (l0.map eRow))) (T := []) (some 53) rfl rfl (by repeat (first | exact trivial | refine ⟨fun q => by first | rfl | exact q | exact cda q | exact cdb q, ?_⟩)) (fun hg => sf_move (v := .d (.slice (l0.map eRow))) rfl rfl g3) nm0 ?_
        refine RQ.gd (v := pI v4_12) (T := []) (some 54) rfl rfl (by repeat (first | exact trivial | refine ⟨fun q => by first | rfl | exact q | exact cda q | exact cdb q, ?_⟩)) (fun hg => sf_move (v := pI v4_12) rfl rfl g3) nm0 ?_
        obtain ⟨c_13, h⟩ := gG h
        refine RQ.gd (v := .d (.cptr (cRow (idx l0 v4_12)))) (T := []) (some 55) rfl rfl (by repeat (first | exact trivial | refine ⟨fun q => by first | rfl | exact q | exact cda q | exact cdb q, ?_⟩)) (fun hg => sf_idxA (l := l0) (i := v4_12) rfl TT.slcA_22 lay_Row rfl rfl (c_13 hg) g3) nm0 ?_
        refine RQ.gd (v := .d (.cptr ((cRow (idx l0 v4_12)).drop 32))) (T := []) (some 56) rfl rfl (by repeat (first | exact trivial | refine ⟨fun q => by first | rfl | exact q | exact cda q | exact cdb q, ?_⟩)) (fun hg => sf_fldC rfl TT.fldA_37_1 (by decide) rfl g3) nm0 ?_
        refine RQ.gd (v := pI ((idx l0 v4_12).fEpoch)) (T := []) (some 57) rfl rfl (by repeat (first | exact trivial | refine ⟨fun q => by first | rfl | exact q | exact cda q | exact cdb q, ?_⟩)) (fun hg => sf_ldC (d := .val (.int .i64 ((idx l0 v4_12).fEpoch))) rfl TT.tyA_3 rfl (ldc_Row_1 _) g3) nm0 ?_
        refine RQ.gd (v := pB (decide (((idx v3_13 v5_7).fEpoch) = ((idx l0 v4_12).fEpoch)))) (T := []) (some 58) rfl rfl (by repeat (first | exact trivial | refine ⟨fun q => by first | rfl | exact q | exact cda q | exact cdb q, ?_⟩)) (fun hg => sf_eq (a := ((idx v3_13 v5_7).fEpoch)) (b := ((idx l0 v4_12).fEpoch)) rfl rfl rfl g3) nm0 ?_
        refine RQ.st (some 59) rfl rfl (sf_pickA rfl rfl rfl rfl (fun hb => by rw [hb]; rfl) (fun _ => rfl) ⟨⟨rfl, rfl⟩, ?_⟩)
        refine RQ.nil (nrm ?_)
        refine QW.cond (t := (((decide (v5_7 < (v3_13.length : Int))) && (((idx v3_13 v5_7).fSum).1 == ((idx l0 v4_12).fSum).1)) && (decide (((idx v3_13 v5_7).fEpoch) = ((idx l0 v4_12).fEpoch))))) rfl zL (fun hb_14 => ?_) (fun hb_14 => ?_)
        · replace h := bGT h hb_14
          refine QW.exit zL (thX (exE (nrm ?_)))
          exact ⟨⟨tab [(0, .d (.slice (l0.map eRow))), (3, .own 0 (v3_13.map eRow)), (4, pI v4_12)], tabH [.spare 34 v3_13.length], 1, []⟩, View.mk 1 [0] _ _ _ rfl rfl (by decide) (iC (iC (iC trivial))) (And.intro rfl trivial) rfl zL rfl, v3_13, v4_12, k_3, by omega, jG h, rfl⟩
        · replace h := bGF h hb_14
          refine QW.skip zL (nrm ?_)
          refine sR ?_
          refine xs 60 rfl (sf_row (en := eRow) (l := ([] : List Row)) rfl TT.rowA_22 lay_Row (by first | rfl | (simp only [List.map_cons, List.map_nil, eRow_eq]; rfl)) rfl (by decide) (by simp [solids, partsP, evP, ofVal, PV.solid, putS_at, tab, unS, unT, unC, asCond, Value.oneCell']) ?_)
          refine xm 61 (.own 0 (v3_13.map eRow)) ?_
          refine xm 62 (pI v5_7) ?_
          obtain ⟨c_15, h⟩ := gG h
          refine xs 63 rfl (sf_subL (l := v3_13) (a := (0 : Int)) (b := v5_7) rfl TT.under_22 TT.slcA_22 lay_Row rfl rfl rfl c_15 ?_)
          obtain ⟨c_16, h⟩ := gG h
          refine xs 64 rfl (sf_appF (en := eRow) (l := ([] : List Row)) (l2 := (sub v3_13 (0 : Int) v5_7)) rfl TT.rowA_22 TT.under_22 rfl lay_Row rfl rfl ⟨c_16, fun _ => rfl⟩ (by decide) ?_)
          refine xz 6 (.own 1 ((([] : List Row) ++ (sub v3_13 (0 : Int) v5_7)).map eRow)) ?_
          refine sR ?_
          refine xm 65 (.own 1 ((([] : List Row) ++ (sub v3_13 (0 : Int) v5_7)).map eRow)) ?_
          refine xm 66 (.d (.slice (l0.map eRow))) ?_
          refine xm 67 (pI v4_12) ?_
          obtain ⟨c_17, h⟩ := gG h
          refine xs 68 rfl (sf_idxA (l := l0) (i := v4_12) rfl TT.slcA_22 lay_Row rfl rfl c_17 ?_)
          refine xs 69 rfl (sf_ldC (d := .agg (cRow (idx l0 v4_12))) rfl TT.tyA_37 rfl (⟨by rw [lay_Row.len]; decide, congrArg D.agg (List.take_of_length_le (by rw [lay_Row.len]; decide))⟩) ?_)
          refine xs 70 rfl (sf_row (en := eRow) (l := ([(idx l0 v4_12)] : List Row)) rfl TT.rowA_22 lay_Row (by first | rfl | (simp only [List.map_cons, List.map_nil, eRow_eq]; rfl)) rfl (by decide) (by simp [solids, partsP, evP, ofVal, PV.solid, putS_at, tab, unS, unT, unC, asCond, Value.oneCell']) ?_)
          obtain ⟨c_18, h⟩ := gG h
          refine xs 71 rfl (sf_appO (en := eRow) (l := (([] : List Row) ++ (sub v3_13 (0 : Int) v5_7))) (l2 := ([(idx l0 v4_12)] : List Row)) rfl TT.rowA_22 TT.under_22 rfl lay_Row rfl rfl rfl c_18 (by decide) ?_)
          refine xz 6 (.own 2 (((([] : List Row) ++ (sub v3_13 (0 : Int) v5_7)) ++ ([(idx l0 v4_12)] : List Row)).map eRow)) ?_
          refine rG ?_
          refine xm 72 (.own 2 (((([] : List Row) ++ (sub v3_13 (0 : Int) v5_7)) ++ ([(idx l0 v4_12)] : List Row)).map eRow)) ?_
          refine xm 73 (.own 0 (v3_13.map eRow)) ?_
          refine xm 74 (pI v5_7) ?_
          obtain ⟨c_19, h⟩ := gG h
          refine xs 75 rfl (sf_subL (l := v3_13) (a := v5_7) (b := (v3_13.length : Int)) rfl TT.under_22 TT.slcA_22 lay_Row rfl rfl rfl c_19 ?_)
          obtain ⟨c_20, h⟩ := gG h
          refine xs 76 rfl (sf_appO (en := eRow) (l := ((([] : List Row) ++ (sub v3_13 (0 : Int) v5_7)) ++ ([(idx l0 v4_12)] : List Row))) (l2 := (sub v3_13 v5_7 (v3_13.length : Int))) rfl TT.rowA_22 TT.under_22 rfl lay_Row rfl rfl rfl c_20 (by decide) ?_)
          refine xa 3 (.own 3 ((((([] : List Row) ++ (sub v3_13 (0 : Int) v5_7)) ++ ([(idx l0 v4_12)] : List Row)) ++ (sub v3_13 v5_7 (v3_13.length : Int))).map eRow)) ?_
          refine XK.nil (blN (nrm ?_))
          exact ⟨⟨tab [(0, .d (.slice (l0.map eRow))), (3, .own 0 ((((([] : List Row) ++ (sub v3_13 (0 : Int) v5_7)) ++ ([(idx l0 v4_12)] : List Row)) ++ (sub v3_13 v5_7 (v3_13.length : Int))).map eRow)), (4, pI v4_12)], tabH [.spare 34 (((([] : List Row) ++ (sub v3_13 (0 : Int) v5_7)) ++ ([(idx l0 v4_12)] : List Row)) ++ (sub v3_13 v5_7 (v3_13.length : Int))).length], 1, []⟩, View.mk 1 [3] _ _ _ rfl rfl (by decide) (iC (iC (iC trivial))) (And.intro rfl trivial) rfl zL rfl, (((([] : List Row) ++ (sub v3_13 (0 : Int) v5_7)) ++ ([(idx l0 v4_12)] : List Row)) ++ (sub v3_13 v5_7 (v3_13.length : Int))), v4_12, k_3, by omega, jG h, rfl⟩
    · rintro _ ⟨v3_11, v4_10, k_21s, k_21h, h, rfl⟩
      obtain ⟨k_21, rfl, h9⟩ := run_succ h; replace h := h9; clear h9; rw [step_ref47_Sort] at h
      refine rG ?_
      refine xm 11 (pI v4_10) ?_
      obtain ⟨c_22, h⟩ := gG h
      refine xs 12 rfl (sf_add (a := v4_10) (b := (1 : Int)) rfl rfl rfl c_22 ?_)
      refine xz 4 (pI (v4_10 + (1 : Int))) ?_
      exact ⟨k_21, by omega, ⟨tab [(0, .d (.slice (l0.map eRow))), (3, .own 0 (v3_11.map eRow)), (4, pI (v4_10 + (1 : Int)))], tabH [.spare 34 v3_11.length], 1, []⟩, View.mk 1 [0] _ _ _ rfl rfl (by decide) (iC (iC (iC trivial))) (And.intro rfl trivial) rfl zL rfl, v3_11, (v4_10 + (1 : Int)), by omega, jG h, rfl⟩
  · replace h := bGF h hb_2
    refine QW.exit zL (thX (thX (exE (nrm ?_))))
    refine sR ?_
    refine xm 77 (.own 0 (v3_2.map eRow)) ?_
    refine xz 2 (.own 0 (v3_2.map eRow)) ?_
    refine QW.ret zL ?_
    obtain rfl := sG h
    exact Ends.one (.inr rfl) rfl (ResIs.tmp rfl) rfl rfl
inductive C_ref48_Put where
  | S
  | L1 (v5_2 : Int) (v6_2 : (List (List Row))) (v7 : Int)
noncomputable def step_ref48_Put (p0 : (List (List Row))) (r1 : Row) : C_ref48_Put → Option (C_ref48_Put ⊕ (List (List Row)))
  | .S =>
    (bif (decide ((p0.length : Int) = (0 : Int))) then
    some (.inr ([([r1] : List Row)] : List (List Row)))
    else
    ((g_ref48_At p0 r1).bind fun (x_2 : Int) =>
    some (.inl (.L1 x_2 ([] : (List (List Row))) (0)))))
  | .L1 v5_2 v6_2 v7 =>
    (bif (decide (v7 < (p0.length : Int))) then
    (((bif (!decide (v7 = v5_2)) then
    gO (0 ≤ v7 ∧ v7 < (p0.length : Int)) (
    gO ((v6_2.length + ([(idx p0 v7)] : List (List Row)).length) * 24 ≤ 140737488355328) (
    some (v6_2 ++ ([(idx p0 v7)] : List (List Row)))))
    else
    gO (0 ≤ v7 ∧ v7 < (p0.length : Int)) (
    gO ((([] : List Row).length + (idx p0 v7).length) * 56 ≤ 140737488355328) (
    gO (((([] : List Row) ++ (idx p0 v7)).length + ([r1] : List Row).length) * 56 ≤ 140737488355328) (
    ((g_ref47_Sort ((([] : List Row) ++ (idx p0 v7)) ++ ([r1] : List Row))).bind fun (x_12 : (List Row)) =>
    (bif (decide ((8 : Int) < (x_12.length : Int))) then
    gO (0 ≤ (0 : Int) ∧ (0 : Int) ≤ (5 : Int) ∧ (5 : Int) ≤ (x_12.length : Int)) (
    gO (0 ≤ (5 : Int) ∧ (5 : Int) ≤ (x_12.length : Int) ∧ (x_12.length : Int) ≤ (x_12.length : Int)) (
    gO ((v6_2.length + ([(sub x_12 (0 : Int) (5 : Int)), (sub x_12 (5 : Int) (x_12.length : Int))] : List (List Row)).length) * 24 ≤ 140737488355328) (
    some (v6_2 ++ ([(sub x_12 (0 : Int) (5 : Int)), (sub x_12 (5 : Int) (x_12.length : Int))] : List (List Row))))))
    else
    gO ((v6_2.length + ([x_12] : List (List Row)).length) * 24 ≤ 140737488355328) (
    some (v6_2 ++ ([x_12] : List (List Row)))))))))) : Option (List (List Row))).bind fun (v6_5 : (List (List Row))) =>
    gO (inI (v7 + (1 : Int))) (
    some (.inl (.L1 v5_2 v6_5 (v7 + (1 : Int))))))
    else
    some (.inr v6_2))
noncomputable def g_ref48_Put (p0 : (List (List Row))) (r1 : Row) : Option (List (List Row)) := theC (step_ref48_Put p0 r1) .S
theorem sim_ref48_Put (p0 : (List (List Row))) (r1 : Row) (r : (List (List Row))) (h : g_ref48_Put p0 r1 = some r) : Fun Try.prog 54 [.slice (p0.map (eL eRow)), .agg (cRow r1)] (.slice (r.map (eL eRow))) := by
  refine Fun.of_bodyQ Try.func54 rfl (by simp [Try.ntmps54]) ?_
  rw [Try.ntmps54, TT.res_54]
  refine QW.view (s' := ⟨tab [(0, .d (.slice (p0.map (eL eRow)))), (1, .d (.agg (cRow r1)))], tabH [], 0, []⟩) (View.init (by rfl)) zL ?_
  replace h := theC_get h
  obtain ⟨_, h⟩ := h
  obtain ⟨k_0, rfl, h9⟩ := run_succ h; replace h := h9; clear h9; rw [step_ref48_Put] at h
  refine sR ?_
  refine XK.fz (some 3) rfl rfl (sf_boxF (ds := cRow r1) rfl rfl rfl rfl toDs_map ?_)
  refine xz 4 (.full (([] : (List (List Row))).map (eL eRow))) ?_
  refine QW.seq ?_
  refine sR ?_
  refine xm 9 (.d (.slice (p0.map (eL eRow)))) ?_
  refine xs 10 rfl (sf_lenL (en := (eL eRow)) (l := p0) rfl TT.under_72 rfl ?_)
  refine xs 11 rfl (sf_eq (a := (p0.length : Int)) (b := (0 : Int)) rfl rfl rfl ?_)
  refine XK.nz ?_
  refine QW.cond (t := (decide ((p0.length : Int) = (0 : Int)))) rfl zL (fun hb_1 => ?_) (fun hb_1 => ?_)
  · replace h := bGT h hb_1
    refine sR ?_
    refine xs 12 rfl (sf_ldC (d := .agg (cRow r1)) rfl TT.tyA_37 rfl (⟨by rw [lay_Row.len]; decide, congrArg D.agg (List.take_of_length_le (by rw [lay_Row.len]; decide))⟩) ?_)
    refine xs 13 rfl (sf_row (en := eRow) (l := ([r1] : List Row)) rfl TT.rowA_22 lay_Row (by first | rfl | (simp only [List.map_cons, List.map_nil, eRow_eq]; rfl)) rfl (by decide) (by simp [solids, partsP, evP, ofVal, PV.solid, putS_at, tab, unS, unT, unC, asCond, Value.oneCell']) ?_)
    refine xs 14 rfl (sf_row (en := (eL eRow)) (l := ([([r1] : List Row)] : List (List Row))) rfl TT.rowA_72 lay_L rfl rfl (by decide) (by simp [solids, partsP, evP, ofVal, PV.solid, putS_at, tab, unS, unT, unC, asCond, Value.oneCell']) ?_)
    refine xz 4 (.full (([([r1] : List Row)] : List (List Row)).map (eL eRow))) ?_
    refine QW.ret zL (thR ?_)
    obtain rfl := sG h
    exact Ends.one (.inr rfl) rfl (ResIs.tmp rfl) rfl rfl
  · replace h := bGF h hb_1
    refine QW.skip zL (nrm ?_)
    refine sR ?_
    refine xm 15 (.d (.slice (p0.map (eL eRow)))) ?_
    refine xs 16 rfl (sf_ldC (d := .agg (cRow r1)) rfl TT.tyA_37 rfl (⟨by rw [lay_Row.len]; decide, congrArg D.agg (List.take_of_length_le (by rw [lay_Row.len]; decide))⟩) ?_)
    obtain ⟨x_2, hx_3, h⟩ := bG h
    refine xs 17 rfl (sf_call rfl rfl TT.enters_125 rfl (sim_ref48_At p0 r1 _ hx_3) ?_)
    refine xz 5 (pI x_2) ?_
    refine sR ?_
    refine xz 6 (.full (([] : (List (List Row))).map (eL eRow))) ?_
    refine QW.seq ?_
    refine sR ?_
    refine xz 7 (pI (0)) ?_
    refine QW.block ?_
    refine QW.loop (fun k σ => ∃ v5_2 : Int, ∃ v6_2 : (List (List Row)), ∃ v7 : Int, k ≤ k_0 ∧ run (step_ref48_Put p0 r1) k (.L1 v5_2 v6_2 v7) = some r ∧ σ = ⟨tab [(0, .d (.slice (p0.map (eL eRow)))), (3, .d (.cptr (cRow r1))), (5, pI v5_2), (6, .own 0 (v6_2.map (eL eRow))), (7, pI v7)], tabH [.spare 1 v6_2.length], 1, []⟩) k_0 zL ⟨⟨tab [(0, .d (.slice (p0.map (eL eRow)))), (3, .d (.cptr (cRow r1))), (5, pI x_2), (6, .own 0 (([] : (List (List Row))).map (eL eRow))), (7, pI (0))], tabH [.spare 1 ([] : (List (List Row))).length], 1, []⟩, View.trans (View.buf 6 1 rfl zL) (View.mk 1 [0] _ _ _ rfl rfl (by decide) (iC (iC (iC (iC (iC trivial))))) (And.intro rfl trivial) rfl zL rfl), x_2, ([] : (List (List Row))), 0, Nat.le_refl _, jG h, rfl⟩ ?_
    rintro k_4s _ ⟨v5_2, v6_2, v7, k_4h, h, rfl⟩
    obtain ⟨k_4, rfl, h9⟩ := run_succ h; replace h := h9; clear h9; rw [step_ref48_Put] at h
    refine QW.seq ?_
    refine sR ?_
    refine xm 18 (pI v7) ?_
    refine xm 19 (.d (.slice (p0.map (eL eRow)))) ?_
    refine xs 20 rfl (sf_lenL (en := (eL eRow)) (l := p0) rfl TT.under_72 rfl ?_)
    refine xs 21 rfl (sf_lss (a := v7) (b := (p0.length : Int)) rfl rfl rfl ?_)
    refine XK.nz ?_
    refine QW.cond (t := (decide (v7 < (p0.length : Int)))) rfl zL (fun hb_5 => ?_) (fun hb_5 => ?_)
    · replace h := bGT h hb_5
      refine QW.skip zL (nrm ?_)
      obtain ⟨v6_5, hq, h⟩ := bG h
      refine QW.seqI (fun s' => s' = ⟨tab [(0, .d (.slice (p0.map (eL eRow)))), (3, .d (.cptr (cRow r1))), (5, pI v5_2), (6, .own 0 (v6_5.map (eL eRow))), (7, pI v7)], tabH [.spare 1 v6_5.length], 1, []⟩) ?_ ?_
      · replace h := hq; clear hq
        refine QW.block ?_
        refine QW.seq ?_
        refine sR ?_
        refine xm 24 (pI v7) ?_
        refine xm 25 (pI v5_2) ?_
        refine xs 26 rfl (sf_ne (a := v7) (b := v5_2) rfl rfl rfl ?_)
        refine XK.nz ?_
        refine QW.cond (t := (!decide (v7 = v5_2))) rfl zL (fun hb_6 => ?_) (fun hb_6 => ?_)
        · replace h := bT h hb_6
          refine sR ?_
          refine xm 27 (.own 0 (v6_2.map (eL eRow))) ?_
          refine xm 28 (.d (.slice (p0.map (eL eRow)))) ?_
          refine xm 29 (pI v7) ?_
          obtain ⟨c_7, h⟩ := gO_get h
          refine xs 30 rfl (sf_idxA (l := p0) (i := v7) rfl TT.slcA_72 lay_L rfl rfl c_7 ?_)
          refine xs 31 rfl (sf_ldC (d := .slice ((idx p0 v7).map eRow)) rfl TT.tyA_22 rfl (LdC.one) ?_)
          refine xs 32 rfl (sf_row (en := (eL eRow)) (l := ([(idx p0 v7)] : List (List Row))) rfl TT.rowA_72 lay_L rfl rfl (by decide) (by simp [solids, partsP, evP, ofVal, PV.solid, putS_at, tab, unS, unT, unC, asCond, Value.oneCell']) ?_)
          obtain ⟨c_8, h⟩ := gO_get h
          refine xs 33 rfl (sf_appO (en := (eL eRow)) (l := v6_2) (l2 := ([(idx p0 v7)] : List (List Row))) rfl TT.rowA_72 TT.under_72 rfl lay_L rfl rfl rfl c_8 (by decide) ?_)
          refine xz 6 (.own 1 ((v6_2 ++ ([(idx p0 v7)] : List (List Row))).map (eL eRow))) ?_
          refine QW.exit zL (thX (exE (nrm ?_)))
          obtain rfl := sO h
          exact ⟨⟨tab [(0, .d (.slice (p0.map (eL eRow)))), (3, .d (.cptr (cRow r1))), (5, pI v5_2), (6, .own 0 ((v6_2 ++ ([(idx p0 v7)] : List (List Row))).map (eL eRow))), (7, pI v7)], tabH [.spare 1 (v6_2 ++ ([(idx p0 v7)] : List (List Row))).length], 1, []⟩, View.mk 1 [1] _ _ _ rfl rfl (by decide) (iC (iC (iC (iC (iC trivial))))) (And.intro rfl trivial) rfl zL rfl, rfl⟩
        · replace h := bF h hb_6
          refine QW.skip zL (nrm ?_)
          refine QW.seq ?_
          refine QW.region zL (PW.regK (id := 10) mixedX (M := _) rfl (by kernel_rfl) ?_)
          refine RK.st (some 34) rfl rfl (sf_row (en := eRow) (l := ([] : List Row)) rfl TT.rowA_22 lay_Row (by first | rfl | (simp only [List.map_cons, List.map_nil, eRow_eq]; rfl)) rfl (by decide) (by simp [solids, partsP, evP, ofVal, PV.solid, putS_at, tab, unS, unT, unC, asCond, Value.oneCell']) ?_)
          refine RK.st (some 35) rfl rfl (sf_move (v := .d (.slice (p0.map (eL eRow)))) rfl rfl ?_)
          refine RK.st (some 36) rfl rfl (sf_move (v := pI v7) rfl rfl ?_)
          obtain ⟨c_9, h⟩ := gO_get h
          refine RK.st (some 37) rfl rfl (sf_idxA (l := p0) (i := v7) rfl TT.slcA_72 lay_L rfl rfl c_9 ?_)
          refine RK.st (some 38) rfl rfl (sf_ldC (d := .slice ((idx p0 v7).map eRow)) rfl TT.tyA_22 rfl (LdC.one) ?_)
          obtain ⟨c_10, h⟩ := gO_get h
          refine RK.st (some 39) rfl rfl (sf_appF (en := eRow) (l := ([] : List Row)) (l2 := (idx p0 v7)) rfl TT.rowA_22 TT.under_22 rfl lay_Row rfl rfl ⟨c_10, fun _ => rfl⟩ (by decide) ?_)
          refine RK.st (some 40) rfl rfl (sf_ldC (d := .agg (cRow r1)) rfl TT.tyA_37 rfl (⟨by rw [lay_Row.len]; decide, congrArg D.agg (List.take_of_length_le (by rw [lay_Row.len]; decide))⟩) ?_)
          refine RK.st (some 41) rfl rfl (sf_row (en := eRow) (l := ([r1] : List Row)) rfl TT.rowA_22 lay_Row (by first | rfl | (simp only [List.map_cons, List.map_nil, eRow_eq]; rfl)) rfl (by decide) (by simp [solids, partsP, evP, ofVal, PV.solid, putS_at, tab, unS, unT, unC, asCond, Value.oneCell']) ?_)
          obtain ⟨c_11, h⟩ := gO_get h
          refine RK.st (some 42) rfl rfl (sf_appO (en := eRow) (l := (([] : List Row) ++ (idx p0 v7))) (l2 := ([r1] : List Row)) rfl TT.rowA_22 TT.under_22 rfl lay_Row rfl rfl rfl c_11 (by decide) ?_)
          obtain ⟨x_12, hx_13, h⟩ := bO h
          refine RK.st (some 43) rfl rfl (sf_call rfl rfl TT.enters_24 rfl (sim_ref47_Sort ((([] : List Row) ++ (idx p0 v7)) ++ ([r1] : List Row)) _ hx_13) ?_)
          refine RK.st (some 8) rfl rfl (sf_assign (v := .d (.slice (x_12.map eRow))) rfl rfl ?_)
          refine RK.nil ⟨RecsOK.comp (by rfl), (nrm ?_)⟩
          refine sR ?_
          refine xm 44 (.d (.slice (x_12.map eRow))) ?_
          refine xs 45 rfl (sf_lenL (en := eRow) (l := x_12) rfl TT.under_22 rfl ?_)
          refine xs 46 rfl (sf_gtr (a := (x_12.length : Int)) (b := (8 : Int)) rfl rfl rfl ?_)
          refine XK.nz ?_
          refine QW.cond (t := (decide ((8 : Int) < (x_12.length : Int)))) rfl zL (fun hb_14 => ?_) (fun hb_14 => ?_)
          · replace h := bT h hb_14
            refine QW.region zL (PW.regK (id := 12) mixedX (M := _) rfl (by kernel_rfl) ?_)
            refine RK.st (some 47) rfl rfl (sf_move (v := .own 0 (v6_2.map (eL eRow))) rfl rfl ?_)
            refine RK.st (some 48) rfl rfl (sf_move (v := .d (.slice (x_12.map eRow))) rfl rfl ?_)
            obtain ⟨c_15, h⟩ := gO_get h
            refine RK.st (some 49) rfl rfl (sf_subL (l := x_12) (a := (0 : Int)) (b := (5 : Int)) rfl TT.under_22 TT.slcA_22 lay_Row rfl rfl rfl c_15 ?_)
            refine RK.st (some 50) rfl rfl (sf_move (v := .d (.slice (x_12.map eRow))) rfl rfl ?_)
            obtain ⟨c_16, h⟩ := gO_get h
            refine RK.st (some 51) rfl rfl (sf_subL (l := x_12) (a := (5 : Int)) (b := (x_12.length : Int)) rfl TT.under_22 TT.slcA_22 lay_Row rfl rfl rfl c_16 ?_)
            refine RK.st (some 52) rfl rfl (sf_row (en := (eL eRow)) (l := ([(sub x_12 (0 : Int) (5 : Int)), (sub x_12 (5 : Int) (x_12.length : Int))] : List (List Row))) rfl TT.rowA_72 lay_L rfl rfl (by decide) (by simp [solids, partsP, evP, ofVal, PV.solid, putS_at, tab, unS, unT, unC, asCond, Value.oneCell']) ?_)
            obtain ⟨c_17, h⟩ := gO_get h
            refine RK.st (some 53) rfl rfl (sf_appO (en := (eL eRow)) (l := v6_2) (l2 := ([(sub x_12 (0 : Int) (5 : Int)), (sub x_12 (5 : Int) (x_12.length : Int))] : List (List Row))) rfl TT.rowA_72 TT.under_72 rfl lay_L rfl rfl rfl c_17 (by decide) ?_)
            refine RK.st (some 6) rfl rfl (sf_assign (v := .own 3 ((v6_2 ++ ([(sub x_12 (0 : Int) (5 : Int)), (sub x_12 (5 : Int) (x_12.length : Int))] : List (List Row))).map (eL eRow))) rfl rfl ?_)
            refine RK.nil ⟨RecsOK.last 6 (by simp) (by simp) (by rfl), (blN (nrm ?_))⟩
            obtain rfl := sO h
            exact ⟨⟨tab [(0, .d (.slice (p0.map (eL eRow)))), (3, .d (.cptr (cRow r1))), (5, pI v5_2), (6, .own 0 ((v6_2 ++ ([(sub x_12 (0 : Int) (5 : Int)), (sub x_12 (5 : Int) (x_12.length : Int))] : List (List Row))).map (eL eRow))), (7, pI v7)], tabH [.spare 1 (v6_2 ++ ([(sub x_12 (0 : Int) (5 : Int)), (sub x_12 (5 : Int) (x_12.length : Int))] : List (List Row))).length], 1, []⟩, View.mk 1 [3] _ _ _ rfl rfl (by decide) (iC (iC (iC (iC (iC trivial))))) (And.intro rfl trivial) rfl zL rfl, rfl⟩
          · replace h := bF h hb_14
            refine rG ?_
            refine xm 54 (.own 0 (v6_2.map (eL eRow))) ?_
            refine xm 55 (.d (.slice (x_12.map eRow))) ?_
            refine xs 56 rfl (sf_row (en := (eL eRow)) (l := ([x_12] : List (List Row))) rfl TT.rowA_72 lay_L rfl rfl (by decide) (by simp [solids, partsP, evP, ofVal, PV.solid, putS_at, tab, unS, unT, unC, asCond, Value.oneCell']) ?_)
            obtain ⟨c_18, h⟩ := gO_get h
            refine xs 57 rfl (sf_appO (en := (eL eRow)) (l := v6_2) (l2 := ([x_12] : List (List Row))) rfl TT.rowA_72 TT.under_72 rfl lay_L rfl rfl rfl c_18 (by decide) ?_)
            refine xa 6 (.own 3 ((v6_2 ++ ([x_12] : List (List Row))).map (eL eRow))) ?_
            refine XK.nil (blN (nrm ?_))
            obtain rfl := sO h
            exact ⟨⟨tab [(0, .d (.slice (p0.map (eL eRow)))), (3, .d (.cptr (cRow r1))), (5, pI v5_2), (6, .own 0 ((v6_2 ++ ([x_12] : List (List Row))).map (eL eRow))), (7, pI v7)], tabH [.spare 1 (v6_2 ++ ([x_12] : List (List Row))).length], 1, []⟩, View.mk 1 [3] _ _ _ rfl rfl (by decide) (iC (iC (iC (iC (iC trivial))))) (And.intro rfl trivial) rfl zL rfl, rfl⟩
      · rintro _ rfl
        refine rG ?_
        refine xm 22 (pI v7) ?_
        obtain ⟨c_19, h⟩ := gG h
        refine xs 23 rfl (sf_add (a := v7) (b := (1 : Int)) rfl rfl rfl c_19 ?_)
        refine xz 7 (pI (v7 + (1 : Int))) ?_
        exact ⟨k_4, by omega, ⟨tab [(0, .d (.slice (p0.map (eL eRow)))), (3, .d (.cptr (cRow r1))), (5, pI v5_2), (6, .own 0 (v6_5.map (eL eRow))), (7, pI (v7 + (1 : Int)))], tabH [.spare 1 v6_5.length], 1, []⟩, View.mk 1 [0] _ _ _ rfl rfl (by decide) (iC (iC (iC (iC (iC trivial))))) (And.intro rfl trivial) rfl zL rfl, v5_2, v6_5, (v7 + (1 : Int)), by omega, jG h, rfl⟩
    · replace h := bGF h hb_5
      refine QW.exit zL (thX (thX (exE (nrm ?_))))
      refine sR ?_
      refine xm 58 (.own 0 (v6_2.map (eL eRow))) ?_
      refine xz 4 (.own 0 (v6_2.map (eL eRow))) ?_
      refine QW.ret zL ?_
      obtain rfl := sG h
      exact Ends.one (.inr rfl) rfl (ResIs.tmp rfl) rfl rfl
inductive C_ref47_Same where
  | S
  | L1 (v5 : Int)
noncomputable def step_ref47_Same (a0 : (List Row)) (b1 : (List Row)) : C_ref47_Same → Option (C_ref47_Same ⊕ Bool)
  | .S =>
    (bif (!decide ((a0.length : Int) = (b1.length : Int))) then
    some (.inr false)
    else
    some (.inl (.L1 (0))))
  | .L1 v5 =>
    (bif (decide (v5 < (a0.length : Int))) then
    gO (0 ≤ v5 ∧ v5 < (a0.length : Int)) (
    gO (0 ≤ v5 ∧ v5 < (b1.length : Int)) (
    (bif (!(beqRow (idx a0 v5) (idx b1 v5))) then
    some (.inr false)
    else
    gO (inI (v5 + (1 : Int))) (
    some (.inl (.L1 (v5 + (1 : Int))))))))
    else
    some (.inr true))
noncomputable def g_ref47_Same (a0 : (List Row)) (b1 : (List Row)) : Option Bool := theC (step_ref47_Same a0 b1) .S
theorem sim_ref47_Same (a0 : (List Row)) (b1 : (List Row)) (r : Bool) (h : g_ref47_Same a0 b1 = some r) : Fun Try.prog 21 [.slice (a0.map eRow), .slice (b1.map eRow)] (.val (.bool r)) := by
  refine Fun.of_bodyQ Try.func21 rfl (by simp [Try.ntmps21]) ?_
  rw [Try.ntmps21, TT.res_21]
  refine QW.view (s' := ⟨tab [(0, .d (.slice (a0.map eRow))), (1, .d (.slice (b1.map eRow)))], tabH [], 0, []⟩) (View.init (by rfl)) zL ?_
  replace h := theC_get h
  obtain ⟨_, h⟩ := h
  obtain ⟨k_0, rfl, h9⟩ := run_succ h; replace h := h9; clear h9; rw [step_ref47_Same] at h
  refine sR ?_
  refine xz 4 (pB false) ?_
  refine QW.seq ?_
  refine sR ?_
  refine xm 6 (.d (.slice (a0.map eRow))) ?_
  refine xs 7 rfl (sf_lenL (en := eRow) (l := a0) rfl TT.under_22 rfl ?_)
  refine xm 8 (.d (.slice (b1.map eRow))) ?_
  refine xs 9 rfl (sf_lenL (en := eRow) (l := b1) rfl TT.under_22 rfl ?_)
  refine xs 10 rfl (sf_ne (a := (a0.length : Int)) (b := (b1.length : Int)) rfl rfl rfl ?_)
  refine XK.nz ?_
  refine QW.cond (t := (!decide ((a0.length : Int) = (b1.length : Int)))) rfl zL (fun hb_1 => ?_) (fun hb_1 => ?_)
  · replace h := bGT h hb_1
    refine sR ?_
    refine xz 4 (pB false) ?_
    refine QW.ret zL (thR ?_)
    obtain rfl := sG h
    exact Ends.one (.inr rfl) rfl (ResIs.tmp rfl) rfl rfl
  · replace h := bGF h hb_1
    refine QW.skip zL (nrm ?_)
    refine QW.seq ?_
    refine sR ?_
    refine xz 5 (pI (0)) ?_
    refine QW.block ?_
    refine QW.loop (fun k σ => ∃ v5 : Int, k ≤ k_0 ∧ run (step_ref47_Same a0 b1) k (.L1 v5) = some r ∧ σ = ⟨tab [(0, .d (.slice (a0.map eRow))), (1, .d (.slice (b1.map eRow))), (5, pI v5)], tabH [], 0, []⟩) k_0 zL ⟨⟨tab [(0, .d (.slice (a0.map eRow))), (1, .d (.slice (b1.map eRow))), (5, pI (0))], tabH [], 0, []⟩, View.mk 0 [] _ _ _ rfl rfl (by decide) (iC (iC (iC trivial))) trivial rfl zL rfl, 0, Nat.le_refl _, jG h, rfl⟩ ?_
    rintro k_2s _ ⟨v5, k_2h, h, rfl⟩
    obtain ⟨k_2, rfl, h9⟩ := run_succ h; replace h := h9; clear h9; rw [step_ref47_Same] at h
    refine QW.seq ?_
    refine sR ?_
    refine xm 11 (pI v5) ?_
    refine xm 12 (.d (.slice (a0.map eRow))) ?_
    refine xs 13 rfl (sf_lenL (en := eRow) (l := a0) rfl TT.under_22 rfl ?_)
    refine xs 14 rfl (sf_lss (a := v5) (b := (a0.length : Int)) rfl rfl rfl ?_)
    refine XK.nz ?_
    refine QW.cond (t := (decide (v5 < (a0.length : Int)))) rfl zL (fun hb_3 => ?_) (fun hb_3 => ?_)
    · replace h := bGT h hb_3
      refine QW.skip zL (nrm ?_)
      refine QW.seq ?_
      refine QW.block ?_
      refine QW.seq ?_
      refine QW.region zL (PW.regQ (id := 6) mixedX (M := _) rfl (by kernel_rfl) ?_)
      refine RQ.st (some 17) rfl rfl (sf_move (v := .d (.slice (a0.map eRow))) rfl rfl ⟨⟨rfl, rfl⟩, ?_⟩)
      refine RQ.st (some 18) rfl rfl (sf_move (v := pI v5) rfl rfl ⟨⟨rfl, rfl⟩, ?_⟩)
      obtain ⟨c_4, h⟩ := gG h
      refine RQ.st (some 19) rfl rfl (sf_idxA (l := a0) (i := v5) rfl TT.slcA_22 lay_Row rfl rfl c_4 ⟨⟨rfl, rfl⟩, ?_⟩)
      refine RQ.st (some 20) rfl rfl (sf_ldC (d := .agg (cRow (idx a0 v5))) rfl TT.tyA_37 rfl (⟨by rw [lay_Row.len]; decide, congrArg D.agg (List.take_of_length_le (by rw [lay_Row.len]; decide))⟩) ⟨⟨rfl, rfl⟩, ?_⟩)
      refine RQ.st (some 21) rfl rfl (sf_move (v := .d (.slice (b1.map eRow))) rfl rfl ⟨⟨rfl, rfl⟩, ?_⟩)
      refine RQ.st (some 22) rfl rfl (sf_move (v := pI v5) rfl rfl ⟨⟨rfl, rfl⟩, ?_⟩)
      obtain ⟨c_5, h⟩ := gG h
      refine RQ.st (some 23) rfl rfl (sf_idxA (l := b1) (i := v5) rfl TT.slcA_22 lay_Row rfl rfl c_5 ⟨⟨rfl, rfl⟩, ?_⟩)
      refine RQ.st (some 24) rfl rfl (sf_ldC (d := .agg (cRow (idx b1 v5))) rfl TT.tyA_37 rfl (⟨by rw [lay_Row.len]; decide, congrArg D.agg (List.take_of_length_le (by rw [lay_Row.len]; decide))⟩) ⟨⟨rfl, rfl⟩, ?_⟩)
      refine RQ.st (some 25) rfl rfl (sf_aggne rfl rfl rfl rfl (eqr_Row (idx a0 v5) (idx b1 v5)) ⟨⟨rfl, rfl⟩, ?_⟩)
      refine RQ.nil (nrm ?_)
      refine QW.cond (t := (!(beqRow (idx a0 v5) (idx b1 v5)))) rfl zL (fun hb_6 => ?_) (fun hb_6 => ?_)
      · replace h := bGT h hb_6
        refine sR ?_
        refine xz 4 (pB false) ?_
        refine QW.ret zL (blR (thR (thR (blR (thR ?_)))))
        obtain rfl := sG h
        exact Ends.one (.inr rfl) rfl (ResIs.tmp rfl) rfl rfl
      · replace h := bGF h hb_6
        refine QW.skip zL (blN (nrm ?_))
        refine rG ?_
        refine xm 15 (pI v5) ?_
        obtain ⟨c_7, h⟩ := gG h
        refine xs 16 rfl (sf_add (a := v5) (b := (1 : Int)) rfl rfl rfl c_7 ?_)
        refine xz 5 (pI (v5 + (1 : Int))) ?_
        exact ⟨k_2, by omega, ⟨tab [(0, .d (.slice (a0.map eRow))), (1, .d (.slice (b1.map eRow))), (5, pI (v5 + (1 : Int)))], tabH [], 0, []⟩, View.mk 0 [] _ _ _ rfl rfl (by decide) (iC (iC (iC trivial))) trivial rfl zL rfl, (v5 + (1 : Int)), by omega, jG h, rfl⟩
    · replace h := bGF h hb_3
      refine QW.exit zL (thX (thX (exE (nrm ?_))))
      refine sR ?_
      refine xz 4 (pB true) ?_
      refine QW.ret zL ?_
      obtain rfl := sG h
      exact Ends.one (.inr rfl) rfl (ResIs.tmp rfl) rfl rfl
inductive C_ref01_Num where
  | S
  | L1 (n0_2 : (BitVec 64)) (v5 : (List UInt8)) (v6 : Int)
noncomputable def step_ref01_Num (n0 : (BitVec 64)) (w1 : Int) : C_ref01_Num → Option (C_ref01_Num ⊕ (List UInt8))
  | .S =>
    some (.inl (.L1 n0 ([] : List UInt8) (0)))
  | .L1 n0_2 v5 v6 =>
    (bif (decide (v6 < w1)) then
    gO (v5.length + ([(u8I ((n0_2 % (256 : BitVec 64)).toNat : Int))] : List UInt8).length ≤ 9223372036854775807) (
    gO (inI (v6 + (1 : Int))) (
    some (.inl (.L1 (n0_2 / (256 : BitVec 64)) (v5 ++ ([(u8I ((n0_2 % (256 : BitVec 64)).toNat : Int))] : List UInt8)) (v6 + (1 : Int))))))
    else
    some (.inr v5))
noncomputable def g_ref01_Num (n0 : (BitVec 64)) (w1 : Int) : Option (List UInt8) := theC (step_ref01_Num n0 w1) .S
theorem sim_ref01_Num (n0 : (BitVec 64)) (w1 : Int) (r : (List UInt8)) (h : g_ref01_Num n0 w1 = some r) : Fun Try.prog 87 [.val (.int .u64 (n0.toNat : Int)), .val (.int .i64 w1)] (.val (sV r)) := by
  refine Fun.of_bodyQ Try.func87 rfl (by simp [Try.ntmps87]) ?_
  rw [Try.ntmps87, TT.res_87]
  refine QW.view (s' := ⟨tab [(0, .d (.val (.int .u64 (n0.toNat : Int)))), (1, pI w1)], tabH [], 0, []⟩) (View.init (by rfl)) zL ?_
  replace h := theC_get h
  obtain ⟨_, h⟩ := h
  obtain ⟨k_0, rfl, h9⟩ := run_succ h; replace h := h9; clear h9; rw [step_ref01_Num] at h
  refine sR ?_
  refine xz 4 (pS ([] : List UInt8)) ?_
  refine sR ?_
  refine xz 5 (pS ([] : List UInt8)) ?_
  refine QW.seq ?_
  refine sR ?_
  refine xz 6 (pI (0)) ?_
  refine QW.block ?_
  refine QW.loop (fun k σ => ∃ n0_2 : (BitVec 64), ∃ v5 : (List UInt8), ∃ v6 : Int, k ≤ k_0 ∧ run (step_ref01_Num n0 w1) k (.L1 n0_2 v5 v6) = some r ∧ σ = ⟨tab [(0, .d (.val (.int .u64 (n0_2.toNat : Int)))), (1, pI w1), (5, pS v5), (6, pI v6)], tabH [], 0, []⟩) k_0 zL ⟨⟨tab [(0, .d (.val (.int .u64 (n0.toNat : Int)))), (1, pI w1), (5, pS ([] : List UInt8)), (6, pI (0))], tabH [], 0, []⟩, View.mk 0 [] _ _ _ rfl rfl (by decide) (iC (iC (iC (iC trivial)))) trivial rfl zL rfl, n0, ([] : List UInt8), 0, Nat.le_refl _, jG h, rfl⟩ ?_
  rintro k_1s _ ⟨n0_2, v5, v6, k_1h, h, rfl⟩
  obtain ⟨k_1, rfl, h9⟩ := run_succ h; replace h := h9; clear h9; rw [step_ref01_Num] at h
  refine QW.seq ?_
  refine sR ?_
  refine xm 7 (pI v6) ?_
  refine xm 8 (pI w1) ?_
  refine xs 9 rfl (sf_lss (a := v6) (b := w1) rfl rfl rfl ?_)
  refine XK.nz ?_
  refine QW.cond (t := (decide (v6 < w1))) rfl zL (fun hb_2 => ?_) (fun hb_2 => ?_)
  · replace h := bGT h hb_2
    refine QW.skip zL (nrm ?_)
    refine QW.seq ?_
    refine QW.block ?_
    refine sR ?_
    refine xm 12 (pS v5) ?_
    refine xm 13 (.d (.val (.int .u64 (n0_2.toNat : Int)))) ?_
    refine xs 14 rfl (sf_wrem' (a := n0_2) (b := (256 : BitVec 64)) rfl rfl rfl (by decide) ?_)
    refine xs 15 rfl (sf_toU8 (n := ((n0_2 % (256 : BitVec 64)).toNat : Int)) rfl TT.under_105 TT.under_5 rfl ?_)
    refine xs 16 rfl (sf_row (en := byteD) (l := ([(u8I ((n0_2 % (256 : BitVec 64)).toNat : Int))] : List UInt8)) rfl TT.rowA_49 lay_byte rfl rfl (by decide) (by simp [solids, partsP, evP, ofVal, PV.solid, putS_at, tab, unS, unT, unC, asCond, Value.oneCell']) ?_)
    refine xs 17 rfl (sf_b2s (l := ([(u8I ((n0_2 % (256 : BitVec 64)).toNat : Int))] : List UInt8)) rfl TT.under_49 TT.under_5 TT.under_9 rfl ?_)
    obtain ⟨c_3, h⟩ := gG h
    refine xs 18 rfl (sf_cat (a := v5) (b := ([(u8I ((n0_2 % (256 : BitVec 64)).toNat : Int))] : List UInt8)) rfl rfl rfl c_3 ?_)
    refine xz 5 (pS (v5 ++ ([(u8I ((n0_2 % (256 : BitVec 64)).toNat : Int))] : List UInt8))) ?_
    refine rG ?_
    refine xm 19 (.d (.val (.int .u64 (n0_2.toNat : Int)))) ?_
    refine xs 20 rfl (sf_wquo' (a := n0_2) (b := (256 : BitVec 64)) rfl rfl rfl (by decide) ?_)
    refine xa 0 (.d (.val (.int .u64 ((n0_2 / (256 : BitVec 64)).toNat : Int)))) ?_
    refine XK.nil (blN (nrm ?_))
    refine rG ?_
    refine xm 10 (pI v6) ?_
    obtain ⟨c_4, h⟩ := gG h
    refine xs 11 rfl (sf_add (a := v6) (b := (1 : Int)) rfl rfl rfl c_4 ?_)
    refine xz 6 (pI (v6 + (1 : Int))) ?_
    exact ⟨k_1, by omega, ⟨tab [(0, .d (.val (.int .u64 ((n0_2 / (256 : BitVec 64)).toNat : Int)))), (1, pI w1), (5, pS (v5 ++ ([(u8I ((n0_2 % (256 : BitVec 64)).toNat : Int))] : List UInt8))), (6, pI (v6 + (1 : Int)))], tabH [], 0, []⟩, View.mk 0 [] _ _ _ rfl rfl (by decide) (iC (iC (iC (iC trivial)))) trivial rfl zL rfl, (n0_2 / (256 : BitVec 64)), (v5 ++ ([(u8I ((n0_2 % (256 : BitVec 64)).toNat : Int))] : List UInt8)), (v6 + (1 : Int)), by omega, jG h, rfl⟩
  · replace h := bGF h hb_2
    refine QW.exit zL (thX (thX (exE (nrm ?_))))
    refine sR ?_
    refine xm 21 (pS v5) ?_
    refine xz 4 (pS v5) ?_
    refine QW.ret zL ?_
    obtain rfl := sG h
    exact Ends.one (.inr rfl) rfl (ResIs.tmp rfl) rfl rfl
noncomputable def g_ref01_Text (s0 : (List UInt8)) : Option (List UInt8) :=
    ((g_ref01_Num (BitVec.ofInt 64 (s0.length : Int)) (4)).bind fun (x_1 : (List UInt8)) =>
    gO (x_1.length + s0.length ≤ 9223372036854775807) (
    some (x_1 ++ s0)))
theorem sim_ref01_Text (s0 : (List UInt8)) (r : (List UInt8)) (h : g_ref01_Text s0 = some r) : Fun Try.prog 89 [.val (sV s0)] (.val (sV r)) := by
  refine Fun.of_bodyQ Try.func89 rfl (by simp [Try.ntmps89]) ?_
  rw [Try.ntmps89, TT.res_89]
  refine QW.view (s' := ⟨tab [(0, pS s0)], tabH [], 0, []⟩) (View.init (by rfl)) zL ?_
  unfold g_ref01_Text at h
  refine sR ?_
  refine xz 2 (pS ([] : List UInt8)) ?_
  refine sR ?_
  refine xm 3 (pS s0) ?_
  refine xs 4 rfl (sf_lenS (l := s0) rfl TT.under_9 rfl ?_)
  refine xs 5 rfl (sf_toW (n := (s0.length : Int)) rfl TT.under_3 TT.under_105 rfl ?_)
  obtain ⟨x_1, hx_2, h⟩ := bO h
  refine xs 6 rfl (sf_call rfl rfl TT.enters_87 rfl (sim_ref01_Num (BitVec.ofInt 64 (s0.length : Int)) (4) _ hx_2) ?_)
  refine xm 7 (pS s0) ?_
  obtain ⟨c_3, h⟩ := gO_get h
  refine xs 8 rfl (sf_cat (a := x_1) (b := s0) rfl rfl rfl c_3 ?_)
  refine xz 2 (pS (x_1 ++ s0)) ?_
  refine QW.ret zL ?_
  obtain rfl := sO h
  exact Ends.one (.inr rfl) rfl (ResIs.tmp rfl) rfl rfl
inductive C_ref47_Put where
  | S
  | L1 (v3_2 : (List UInt8)) (v4 : Int)
noncomputable def step_ref47_Put (l0 : (List Row)) : C_ref47_Put → Option (C_ref47_Put ⊕ (List UInt8))
  | .S =>
    ((g_ref01_Num (BitVec.ofInt 64 (l0.length : Int)) (1)).bind fun (x_1 : (List UInt8)) =>
    some (.inl (.L1 x_1 (0))))
  | .L1 v3_2 v4 =>
    (bif (decide (v4 < (l0.length : Int))) then
    gO (0 ≤ v4 ∧ v4 < (l0.length : Int)) (
    ((g_ref16_Bytes ((idx l0 v4).fSum)).bind fun (x_6 : (List UInt8)) =>
    gO (v3_2.length + x_6.length ≤ 9223372036854775807) (
    gO (0 ≤ v4 ∧ v4 < (l0.length : Int)) (
    ((g_ref01_Num (BitVec.ofInt 64 ((idx l0 v4).fEpoch)) (4)).bind fun (x_10 : (List UInt8)) =>
    gO ((v3_2 ++ x_6).length + x_10.length ≤ 9223372036854775807) (
    gO (0 ≤ v4 ∧ v4 < (l0.length : Int)) (
    ((g_ref01_Text ((idx l0 v4).fBody)).bind fun (x_14 : (List UInt8)) =>
    gO (((v3_2 ++ x_6) ++ x_10).length + x_14.length ≤ 9223372036854775807) (
    gO (inI (v4 + (1 : Int))) (
    some (.inl (.L1 (((v3_2 ++ x_6) ++ x_10) ++ x_14) (v4 + (1 : Int))))))))))))))
    else
    some (.inr v3_2))
noncomputable def g_ref47_Put (l0 : (List Row)) : Option (List UInt8) := theC (step_ref47_Put l0) .S
theorem sim_ref47_Put (l0 : (List Row)) (r : (List UInt8)) (h : g_ref47_Put l0 = some r) : Fun Try.prog 23 [.slice (l0.map eRow)] (.val (sV r)) := by
  refine Fun.of_bodyQ Try.func23 rfl (by simp [Try.ntmps23]) ?_
  rw [Try.ntmps23, TT.res_23]
  refine QW.view (s' := ⟨tab [(0, .d (.slice (l0.map eRow)))], tabH [], 0, []⟩) (View.init (by rfl)) zL ?_
  replace h := theC_get h
  obtain ⟨_, h⟩ := h
  obtain ⟨k_0, rfl, h9⟩ := run_succ h; replace h := h9; clear h9; rw [step_ref47_Put] at h
  refine sR ?_
  refine xz 2 (pS ([] : List UInt8)) ?_
  refine sR ?_
  refine xm 5 (.d (.slice (l0.map eRow))) ?_
  refine xs 6 rfl (sf_lenL (en := eRow) (l := l0) rfl TT.under_22 rfl ?_)
  refine xs 7 rfl (sf_toW (n := (l0.length : Int)) rfl TT.under_3 TT.under_105 rfl ?_)
  obtain ⟨x_1, hx_2, h⟩ := bG h
  refine xs 8 rfl (sf_call rfl rfl TT.enters_87 rfl (sim_ref01_Num (BitVec.ofInt 64 (l0.length : Int)) (1) _ hx_2) ?_)
  refine xz 3 (pS x_1) ?_
  refine QW.seq ?_
  refine sR ?_
  refine xz 4 (pI (0)) ?_
  refine QW.block ?_
  refine QW.loop (fun k σ => ∃ v3_2 : (List UInt8), ∃ v4 : Int, k ≤ k_0 ∧ run (step_ref47_Put l0) k (.L1 v3_2 v4) = some r ∧ σ = ⟨tab [(0, .d (.slice (l0.map eRow))), (3, pS v3_2), (4, pI v4)], tabH [], 0, []⟩) k_0 zL ⟨⟨tab [(0, .d (.slice (l0.map eRow))), (3, pS x_1), (4, pI (0))], tabH [], 0, []⟩, View.mk 0 [] _ _ _ rfl rfl (by decide) (iC (iC (iC trivial))) trivial rfl zL rfl, x_1, 0, Nat.le_refl _, jG h, rfl⟩ ?_
  rintro k_3s _ ⟨v3_2, v4, k_3h, h, rfl⟩
  obtain ⟨k_3, rfl, h9⟩ := run_succ h; replace h := h9; clear h9; rw [step_ref47_Put] at h
  refine QW.seq ?_
  refine sR ?_
  refine xm 9 (pI v4) ?_
  refine xm 10 (.d (.slice (l0.map eRow))) ?_
  refine xs 11 rfl (sf_lenL (en := eRow) (l := l0) rfl TT.under_22 rfl ?_)
  refine xs 12 rfl (sf_lss (a := v4) (b := (l0.length : Int)) rfl rfl rfl ?_)
  refine XK.nz ?_
  refine QW.cond (t := (decide (v4 < (l0.length : Int)))) rfl zL (fun hb_4 => ?_) (fun hb_4 => ?_)
  · replace h := bGT h hb_4
    refine QW.skip zL (nrm ?_)
    refine QW.seq ?_
    refine QW.block ?_
    refine QW.region zL (PW.regQ (id := 5) mixedX (M := _) rfl (by kernel_rfl) ?_)
    refine RQ.st (some 15) rfl rfl (sf_move (v := pS v3_2) rfl rfl ⟨⟨rfl, rfl⟩, ?_⟩)
    refine RQ.st (some 16) rfl rfl (sf_move (v := .d (.slice (l0.map eRow))) rfl rfl ⟨⟨rfl, rfl⟩, ?_⟩)
    refine RQ.st (some 17) rfl rfl (sf_move (v := pI v4) rfl rfl ⟨⟨rfl, rfl⟩, ?_⟩)
    obtain ⟨c_5, h⟩ := gG h
    refine RQ.st (some 18) rfl rfl (sf_idxA (l := l0) (i := v4) rfl TT.slcA_22 lay_Row rfl rfl c_5 ⟨⟨rfl, rfl⟩, ?_⟩)
    refine RQ.st (some 19) rfl rfl (sf_fldC rfl TT.fldA_37_0 (by decide) rfl ⟨⟨rfl, rfl⟩, ?_⟩)
    refine RQ.st (some 20) rfl rfl (sf_ldC (d := .agg (((idx l0 v4).fSum).1.map byteD)) rfl TT.tyA_35 rfl (ldc_Row_0 _) ⟨⟨rfl, rfl⟩, ?_⟩)
    obtain ⟨x_6, hx_7, h⟩ := bG h
    refine RQ.st (some 21) rfl rfl (sf_call rfl rfl TT.enters_88 rfl (sim_ref16_Bytes ((idx l0 v4).fSum) _ hx_7) ⟨⟨rfl, rfl⟩, ?_⟩)
    obtain ⟨c_8, h⟩ := gG h
    refine RQ.st (some 22) rfl rfl (sf_cat (a := v3_2) (b := x_6) rfl rfl rfl c_8 ⟨⟨rfl, rfl⟩, ?_⟩)
    refine RQ.st (some 23) rfl rfl (sf_move (v := .d (.slice (l0.map eRow))) rfl rfl ⟨⟨rfl, rfl⟩, ?_⟩)
    refine RQ.st (some 24) rfl rfl (sf_move (v := pI v4) rfl rfl ⟨⟨rfl, rfl⟩, ?_⟩)
    obtain ⟨c_9, h⟩ := gG h
    refine RQ.st (some 25) rfl rfl (sf_idxA (l := l0) (i := v4) rfl TT.slcA_22 lay_Row rfl rfl c_9 ⟨⟨rfl, rfl⟩, ?_⟩)
    refine RQ.st (some 26) rfl rfl (sf_fldC rfl TT.fldA_37_1 (by decide) rfl ⟨⟨rfl, rfl⟩, ?_⟩)
    refine RQ.st (some 27) rfl rfl (sf_ldC (d := .val (.int .i64 ((idx l0 v4).fEpoch))) rfl TT.tyA_3 rfl (ldc_Row_1 _) ⟨⟨rfl, rfl⟩, ?_⟩)
    refine RQ.st (some 28) rfl rfl (sf_toW (n := ((idx l0 v4).fEpoch)) rfl TT.under_3 TT.under_105 rfl ⟨⟨rfl, rfl⟩, ?_⟩)
    obtain ⟨x_10, hx_11, h⟩ := bG h
    refine RQ.st (some 29) rfl rfl (sf_call rfl rfl TT.enters_87 rfl (sim_ref01_Num (BitVec.ofInt 64 ((idx l0 v4).fEpoch)) (4) _ hx_11) ⟨⟨rfl, rfl⟩, ?_⟩)
    obtain ⟨c_12, h⟩ := gG h
    refine RQ.st (some 30) rfl rfl (sf_cat (a := (v3_2 ++ x_6)) (b := x_10) rfl rfl rfl c_12 ⟨⟨rfl, rfl⟩, ?_⟩)
    refine RQ.st (some 31) rfl rfl (sf_move (v := .d (.slice (l0.map eRow))) rfl rfl ⟨⟨rfl, rfl⟩, ?_⟩)
    refine RQ.st (some 32) rfl rfl (sf_move (v := pI v4) rfl rfl ⟨⟨rfl, rfl⟩, ?_⟩)
    obtain ⟨c_13, h⟩ := gG h
    refine RQ.st (some 33) rfl rfl (sf_idxA (l := l0) (i := v4) rfl TT.slcA_22 lay_Row rfl rfl c_13 ⟨⟨rfl, rfl⟩, ?_⟩)
    refine RQ.st (some 34) rfl rfl (sf_fldC rfl TT.fldA_37_2 (by decide) rfl ⟨⟨rfl, rfl⟩, ?_⟩)
    refine RQ.st (some 35) rfl rfl (sf_ldC (d := .val (sV ((idx l0 v4).fBody))) rfl TT.tyA_9 rfl (ldc_Row_2 _) ⟨⟨rfl, rfl⟩, ?_⟩)
    obtain ⟨x_14, hx_15, h⟩ := bG h
    refine RQ.st (some 36) rfl rfl (sf_call rfl rfl TT.enters_89 rfl (sim_ref01_Text ((idx l0 v4).fBody) _ hx_15) ⟨⟨rfl, rfl⟩, ?_⟩)
    obtain ⟨c_16, h⟩ := gG h
    refine RQ.st (some 37) rfl rfl (sf_cat (a := ((v3_2 ++ x_6) ++ x_10)) (b := x_14) rfl rfl rfl c_16 ⟨⟨rfl, rfl⟩, ?_⟩)
    refine RQ.st (some 3) rfl rfl (sf_assign (v := pS (((v3_2 ++ x_6) ++ x_10) ++ x_14)) rfl rfl ⟨⟨rfl, rfl⟩, ?_⟩)
    refine RQ.nil (blN (nrm ?_))
    refine QW.view (s' := ⟨tab [(0, .d (.slice (l0.map eRow))), (3, pS (((v3_2 ++ x_6) ++ x_10) ++ x_14)), (4, pI v4)], tabH [], 0, []⟩) (View.mk 0 [] _ _ _ rfl rfl (by decide) (iC (iC (iC trivial))) trivial rfl zL rfl) zL ?_
    refine rG ?_
    refine xm 13 (pI v4) ?_
    obtain ⟨c_17, h⟩ := gG h
    refine xs 14 rfl (sf_add (a := v4) (b := (1 : Int)) rfl rfl rfl c_17 ?_)
    refine xz 4 (pI (v4 + (1 : Int))) ?_
    exact ⟨k_3, by omega, ⟨tab [(0, .d (.slice (l0.map eRow))), (3, pS (((v3_2 ++ x_6) ++ x_10) ++ x_14)), (4, pI (v4 + (1 : Int)))], tabH [], 0, []⟩, View.mk 0 [] _ _ _ rfl rfl (by decide) (iC (iC (iC trivial))) trivial rfl zL rfl, (((v3_2 ++ x_6) ++ x_10) ++ x_14), (v4 + (1 : Int)), by omega, jG h, rfl⟩
  · replace h := bGF h hb_4
    refine QW.exit zL (thX (thX (exE (nrm ?_))))
    refine sR ?_
    refine xm 38 (pS v3_2) ?_
    refine xz 2 (pS v3_2) ?_
    refine QW.ret zL ?_
    obtain rfl := sG h
    exact Ends.one (.inr rfl) rfl (ResIs.tmp rfl) rfl rfl
inductive C_ref48_Text where
  | S
  | L1 (v3 : (List UInt8)) (v4 : Int)
noncomputable def step_ref48_Text (p0 : (List (List Row))) : C_ref48_Text → Option (C_ref48_Text ⊕ (List UInt8))
  | .S =>
    some (.inl (.L1 ([] : List UInt8) (0)))
  | .L1 v3 v4 =>
    (bif (decide (v4 < (p0.length : Int))) then
    gO (0 ≤ v4 ∧ v4 < (p0.length : Int)) (
    ((g_ref47_Put (idx p0 v4)).bind fun (x_4 : (List UInt8)) =>
    ((g_ref01_Text x_4).bind fun (x_6 : (List UInt8)) =>
    gO (v3.length + x_6.length ≤ 9223372036854775807) (
    gO (inI (v4 + (1 : Int))) (
    some (.inl (.L1 (v3 ++ x_6) (v4 + (1 : Int)))))))))
    else
    some (.inr v3))
noncomputable def g_ref48_Text (p0 : (List (List Row))) : Option (List UInt8) := theC (step_ref48_Text p0) .S
theorem sim_ref48_Text (p0 : (List (List Row))) (r : (List UInt8)) (h : g_ref48_Text p0 = some r) : Fun Try.prog 61 [.slice (p0.map (eL eRow))] (.val (sV r)) := by
  refine Fun.of_bodyQ Try.func61 rfl (by simp [Try.ntmps61]) ?_
  rw [Try.ntmps61, TT.res_61]
  refine QW.view (s' := ⟨tab [(0, .d (.slice (p0.map (eL eRow))))], tabH [], 0, []⟩) (View.init (by rfl)) zL ?_
  replace h := theC_get h
  obtain ⟨_, h⟩ := h
  obtain ⟨k_0, rfl, h9⟩ := run_succ h; replace h := h9; clear h9; rw [step_ref48_Text] at h
  refine sR ?_
  refine xz 2 (pS ([] : List UInt8)) ?_
  refine sR ?_
  refine xz 3 (pS ([] : List UInt8)) ?_
  refine QW.seq ?_
  refine sR ?_
  refine xz 4 (pI (0)) ?_
  refine QW.block ?_
  refine QW.loop (fun k σ => ∃ v3 : (List UInt8), ∃ v4 : Int, k ≤ k_0 ∧ run (step_ref48_Text p0) k (.L1 v3 v4) = some r ∧ σ = ⟨tab [(0, .d (.slice (p0.map (eL eRow)))), (3, pS v3), (4, pI v4)], tabH [], 0, []⟩) k_0 zL ⟨⟨tab [(0, .d (.slice (p0.map (eL eRow)))), (3, pS ([] : List UInt8)), (4, pI (0))], tabH [], 0, []⟩, View.mk 0 [] _ _ _ rfl rfl (by decide) (iC (iC (iC trivial))) trivial rfl zL rfl, ([] : List UInt8), 0, Nat.le_refl _, jG h, rfl⟩ ?_
  rintro k_1s _ ⟨v3, v4, k_1h, h, rfl⟩
  obtain ⟨k_1, rfl, h9⟩ := run_succ h; replace h := h9; clear h9; rw [step_ref48_Text] at h
  refine QW.seq ?_
  refine sR ?_
  refine xm 5 (pI v4) ?_
  refine xm 6 (.d (.slice (p0.map (eL eRow)))) ?_
  refine xs 7 rfl (sf_lenL (en := (eL eRow)) (l := p0) rfl TT.under_72 rfl ?_)
  refine xs 8 rfl (sf_lss (a := v4) (b := (p0.length : Int)) rfl rfl rfl ?_)
  refine XK.nz ?_
  refine QW.cond (t := (decide (v4 < (p0.length : Int)))) rfl zL (fun hb_2 => ?_) (fun hb_2 => ?_)
  · replace h := bGT h hb_2
    refine QW.skip zL (nrm ?_)
    refine QW.seq ?_
    refine QW.block ?_
    refine rG ?_
    refine xm 11 (pS v3) ?_
    refine xm 12 (.d (.slice (p0.map (eL eRow)))) ?_
    refine xm 13 (pI v4) ?_
    obtain ⟨c_3, h⟩ := gG h
    refine xs 14 rfl (sf_idxA (l := p0) (i := v4) rfl TT.slcA_72 lay_L rfl rfl c_3 ?_)
    refine xs 15 rfl (sf_ldC (d := .slice ((idx p0 v4).map eRow)) rfl TT.tyA_22 rfl (LdC.one) ?_)
    obtain ⟨x_4, hx_5, h⟩ := bG h
    refine xs 16 rfl (sf_call rfl rfl TT.enters_23 rfl (sim_ref47_Put (idx p0 v4) _ hx_5) ?_)
    obtain ⟨x_6, hx_7, h⟩ := bG h
    refine xs 17 rfl (sf_call rfl rfl TT.enters_89 rfl (sim_ref01_Text x_4 _ hx_7) ?_)
    obtain ⟨c_8, h⟩ := gG h
    refine xs 18 rfl (sf_cat (a := v3) (b := x_6) rfl rfl rfl c_8 ?_)
    refine xa 3 (pS (v3 ++ x_6)) ?_
    refine XK.nil (blN (nrm ?_))
    refine rG ?_
    refine xm 9 (pI v4) ?_
    obtain ⟨c_9, h⟩ := gG h
    refine xs 10 rfl (sf_add (a := v4) (b := (1 : Int)) rfl rfl rfl c_9 ?_)
    refine xz 4 (pI (v4 + (1 : Int))) ?_
    exact ⟨k_1, by omega, ⟨tab [(0, .d (.slice (p0.map (eL eRow)))), (3, pS (v3 ++ x_6)), (4, pI (v4 + (1 : Int)))], tabH [], 0, []⟩, View.mk 0 [] _ _ _ rfl rfl (by decide) (iC (iC (iC trivial))) trivial rfl zL rfl, (v3 ++ x_6), (v4 + (1 : Int)), by omega, jG h, rfl⟩
  · replace h := bGF h hb_2
    refine QW.exit zL (thX (thX (exE (nrm ?_))))
    refine sR ?_
    refine xm 19 (pS v3) ?_
    refine xz 2 (pS v3) ?_
    refine QW.ret zL ?_
    obtain rfl := sG h
    exact Ends.one (.inr rfl) rfl (ResIs.tmp rfl) rfl rfl
end Go.Proofs.Ytoeppofkmcdknaa.K
