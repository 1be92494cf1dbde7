/- The references of layers 47 and 48: what they reckon. -/
import Derived.Test.YtoeppofkmcdknaaDWPin
import Derived.KernelRfl
namespace Go.Proofs.Ytoeppofkmcdknaa.K
open Go Go.RowKit
set_option linter.unusedSimpArgs false
set_option linter.unusedVariables false
set_option maxRecDepth 20000
set_option maxHeartbeats 4000000
namespace TT
theorem arrA_117 : arrA Try.prog 117 = some (32, 1, false) := by kernel_rfl
theorem enters_28 : entersB Try.prog 28 = true := by kernel_rfl
theorem enters_57 : entersB Try.prog 57 = true := by kernel_rfl
theorem enters_88 : entersB Try.prog 88 = true := by kernel_rfl
theorem res_28 : Try.f28.results.toList = [.tmp 4] := rfl
theorem res_57 : Try.f57.results.toList = [.tmp 2] := rfl
theorem res_88 : Try.f88.results.toList = [.tmp 2] := rfl
theorem slcA_117 : slcA Try.prog 117 = none := by kernel_rfl
end TT
def beqRow (x y : Row) : Bool := (((x.fSum).1 == (y.fSum).1) && ((decide (x.fEpoch = y.fEpoch)) && (x.fBody == y.fBody)))
theorem beqRow_iff (x y : Row) : beqRow x y = true ↔ x = y := by
  cases x; cases y; simp [beqRow, Subtype.ext_iff]
inductive C_ref48_All where
  | S
  | L1 (v3 : (List Row)) (v4 : Int)
noncomputable def step_ref48_All (p0 : (List (List Row))) : C_ref48_All → Option (C_ref48_All ⊕ (List Row))
  | .S =>
    some (.inl (.L1 ([] : (List Row)) (0)))
  | .L1 v3 v4 =>
    (bif (decide (v4 < (p0.length : Int))) then
    gO (0 ≤ v4 ∧ v4 < (p0.length : Int)) (
    gO ((v3.length + (idx p0 v4).length) * 56 ≤ 140737488355328) (
    gO (inI (v4 + (1 : Int))) (
    some (.inl (.L1 (v3 ++ (idx p0 v4)) (v4 + (1 : Int)))))))
    else
    some (.inr v3))
noncomputable def g_ref48_All (p0 : (List (List Row))) : Option (List Row) := theC (step_ref48_All p0) .S
inductive C_ref16_Bytes where
  | S
  | L1 (v3 : (List UInt8)) (v4 : Int)
noncomputable def step_ref16_Bytes (k0 : (Arr 32 UInt8)) : C_ref16_Bytes → Option (C_ref16_Bytes ⊕ (List UInt8))
  | .S =>
    some (.inl (.L1 ([] : List UInt8) (0)))
  | .L1 v3 v4 =>
    (bif (decide (v4 < (32 : Int))) then
    gO (0 ≤ v4 ∧ v4 < ((32 : Nat) : Int)) (
    gO (v3.length + ([(idx k0.1 v4)] : List UInt8).length ≤ 9223372036854775807) (
    gO (inI (v4 + (1 : Int))) (
    some (.inl (.L1 (v3 ++ ([(idx k0.1 v4)] : List UInt8)) (v4 + (1 : Int)))))))
    else
    some (.inr v3))
noncomputable def g_ref16_Bytes (k0 : (Arr 32 UInt8)) : Option (List UInt8) := theC (step_ref16_Bytes k0) .S
theorem sim_ref16_Bytes (k0 : (Arr 32 UInt8)) (r : (List UInt8)) (h : g_ref16_Bytes k0 = some r) : Fun Try.prog 88 [.agg (k0.1.map byteD)] (.val (sV r)) := by
  refine Fun.of_bodyQ Try.func88 rfl (by simp [Try.ntmps88]) ?_
  rw [Try.ntmps88, TT.res_88]
  refine QW.view (s' := ⟨tab [(0, .d (.agg (k0.1.map byteD)))], tabH [], 0, []⟩) (View.init (by rfl)) zL ?_
  replace h := theC_get h
  obtain ⟨_, h⟩ := h
  obtain ⟨k_0, rfl, h9⟩ := run_succ h; replace h := h9; clear h9; rw [step_ref16_Bytes] at h
  refine sR ?_
  refine XK.fz (some 1) rfl rfl (sf_boxF (ds := k0.1.map byteD) rfl rfl rfl rfl toDs_map ?_)
  refine xz 2 (pS ([] : List UInt8)) ?_
  refine sR ?_
  refine xz 3 (pS ([] : List UInt8)) ?_
  refine QW.seq ?_
  refine sR ?_
  refine xz 4 (pI (0)) ?_
  refine QW.block ?_
  refine QW.loop (fun k σ => ∃ v3 : (List UInt8), ∃ v4 : Int, k ≤ k_0 ∧ run (step_ref16_Bytes k0) k (.L1 v3 v4) = some r ∧ σ = ⟨tab [(1, .d (.cptr (k0.1.map byteD))), (3, pS v3), (4, pI v4)], tabH [], 0, []⟩) k_0 zL ⟨⟨tab [(1, .d (.cptr (k0.1.map byteD))), (3, pS ([] : List UInt8)), (4, pI (0))], tabH [], 0, []⟩, View.mk 0 [] _ _ _ rfl rfl (by decide) (iC (iC (iC trivial))) trivial rfl zL rfl, ([] : List UInt8), 0, Nat.le_refl _, jG h, rfl⟩ ?_
  rintro k_1s _ ⟨v3, v4, k_1h, h, rfl⟩
  obtain ⟨k_1, rfl, h9⟩ := run_succ h; replace h := h9; clear h9; rw [step_ref16_Bytes] at h
  refine QW.seq ?_
  refine sR ?_
  refine xm 5 (pI v4) ?_
  refine xs 6 rfl (sf_lss (a := v4) (b := (32 : Int)) rfl rfl rfl ?_)
  refine XK.nz ?_
  refine QW.cond (t := (decide (v4 < (32 : Int)))) rfl zL (fun hb_2 => ?_) (fun hb_2 => ?_)
  · replace h := bGT h hb_2
    refine QW.skip zL (nrm ?_)
    refine QW.seq ?_
    refine QW.block ?_
    refine rG ?_
    refine xm 9 (pS v3) ?_
    refine xm 10 (pI v4) ?_
    obtain ⟨c_3, h⟩ := gG h
    refine xs 11 rfl (sf_idxC (i := v4) rfl TT.slcA_117 TT.arrA_117 rfl rfl c_3 ?_)
    refine xs 12 rfl (sf_ldC (d := .val (.int .u8 ((idx k0.1 v4).toNat : Int))) rfl TT.tyA_5 rfl (ld_arr (Pre.all _) c_3) ?_)
    refine xs 13 rfl (sf_row (en := byteD) (l := ([(idx k0.1 v4)] : List UInt8)) rfl TT.rowA_49 lay_byte rfl rfl (by decide) (by simp [solids, partsP, evP, ofVal, PV.solid, putS_at, tab, unS, unT, unC, asCond, Value.oneCell']) ?_)
    refine xs 14 rfl (sf_b2s (l := ([(idx k0.1 v4)] : List UInt8)) rfl TT.under_49 TT.under_5 TT.under_9 rfl ?_)
    obtain ⟨c_4, h⟩ := gG h
    refine xs 15 rfl (sf_cat (a := v3) (b := ([(idx k0.1 v4)] : List UInt8)) rfl rfl rfl c_4 ?_)
    refine xa 3 (pS (v3 ++ ([(idx k0.1 v4)] : List UInt8))) ?_
    refine XK.nil (blN (nrm ?_))
    refine rG ?_
    refine xm 7 (pI v4) ?_
    obtain ⟨c_5, h⟩ := gG h
    refine xs 8 rfl (sf_add (a := v4) (b := (1 : Int)) rfl rfl rfl c_5 ?_)
    refine xz 4 (pI (v4 + (1 : Int))) ?_
    exact ⟨k_1, by omega, ⟨tab [(1, .d (.cptr (k0.1.map byteD))), (3, pS (v3 ++ ([(idx k0.1 v4)] : List UInt8))), (4, pI (v4 + (1 : Int)))], tabH [], 0, []⟩, View.mk 0 [] _ _ _ rfl rfl (by decide) (iC (iC (iC trivial))) trivial rfl zL rfl, (v3 ++ ([(idx k0.1 v4)] : List UInt8)), (v4 + (1 : Int)), by omega, jG h, rfl⟩
  · replace h := bGF h hb_2
    refine QW.exit zL (thX (thX (exE (nrm ?_))))
    refine sR ?_
    refine xm 16 (pS v3) ?_
    refine xz 2 (pS v3) ?_
    refine QW.ret zL ?_
    obtain rfl := sG h
    exact Ends.one (.inr rfl) rfl (ResIs.tmp rfl) rfl rfl
noncomputable def g_ref47_Less (a0 : Row) (b1 : Row) : Option Bool :=
    ((g_ref16_Bytes (a0.fSum)).bind fun (x_1 : (List UInt8)) =>
    ((g_ref16_Bytes (b1.fSum)).bind fun (x_3 : (List UInt8)) =>
    (bif (!(x_1 == x_3)) then
    some (Op.bytesLess x_1 x_3)
    else
    some (decide ((a0.fEpoch) < (b1.fEpoch))))))
theorem sim_ref47_Less (a0 : Row) (b1 : Row) (r : Bool) (h : g_ref47_Less a0 b1 = some r) : Fun Try.prog 28 [.agg (cRow a0), .agg (cRow b1)] (.val (.bool r)) := by
  refine Fun.of_bodyQ Try.func28 rfl (by simp [Try.ntmps28]) ?_
  rw [Try.ntmps28, TT.res_28]
  refine QW.view (s' := ⟨tab [(0, .d (.agg (cRow a0))), (1, .d (.agg (cRow b1)))], tabH [], 0, []⟩) (View.init (by rfl)) zL ?_
  unfold g_ref47_Less at h
  refine sR ?_
  refine XK.fz (some 2) rfl rfl (sf_boxF (ds := cRow a0) rfl rfl rfl rfl toDs_map ?_)
  refine XK.fz (some 3) rfl rfl (sf_boxF (ds := cRow b1) rfl rfl rfl rfl toDs_map ?_)
  refine xz 4 (pB false) ?_
  refine sR ?_
  refine xs 7 rfl (sf_fldC rfl TT.fldA_37_0 (by decide) rfl ?_)
  refine xs 8 rfl (sf_ldC (d := .agg ((a0.fSum).1.map byteD)) rfl TT.tyA_35 rfl (ldc_Row_0 _) ?_)
  obtain ⟨x_1, hx_2, h⟩ := bO h
  refine xs 9 rfl (sf_call rfl rfl TT.enters_88 rfl (sim_ref16_Bytes (a0.fSum) _ hx_2) ?_)
  refine xz 5 (pS x_1) ?_
  refine sR ?_
  refine xs 10 rfl (sf_fldC rfl TT.fldA_37_0 (by decide) rfl ?_)
  refine xs 11 rfl (sf_ldC (d := .agg ((b1.fSum).1.map byteD)) rfl TT.tyA_35 rfl (ldc_Row_0 _) ?_)
  obtain ⟨x_3, hx_4, h⟩ := bO h
  refine xs 12 rfl (sf_call rfl rfl TT.enters_88 rfl (sim_ref16_Bytes (b1.fSum) _ hx_4) ?_)
  refine xz 6 (pS x_3) ?_
  refine QW.seq ?_
  refine sR ?_
  refine xm 13 (pS x_1) ?_
  refine xm 14 (pS x_3) ?_
  refine xs 15 rfl (sf_sne (a := x_1) (b := x_3) rfl rfl rfl ?_)
  refine XK.nz ?_
  refine QW.cond (t := (!(x_1 == x_3))) rfl zL (fun hb_5 => ?_) (fun hb_5 => ?_)
  · replace h := bT h hb_5
    refine sR ?_
    refine xm 16 (pS x_1) ?_
    refine xm 17 (pS x_3) ?_
    refine xs 18 rfl (sf_slt (a := x_1) (b := x_3) rfl rfl rfl ?_)
    refine xz 4 (pB (Op.bytesLess x_1 x_3)) ?_
    refine QW.ret zL (thR ?_)
    obtain rfl := sO h
    exact Ends.one (.inr rfl) rfl (ResIs.tmp rfl) rfl rfl
  · replace h := bF h hb_5
    refine QW.skip zL (nrm ?_)
    refine sR ?_
    refine xs 19 rfl (sf_fldC rfl TT.fldA_37_1 (by decide) rfl ?_)
    refine xs 20 rfl (sf_ldC (d := .val (.int .i64 (a0.fEpoch))) rfl TT.tyA_3 rfl (ldc_Row_1 _) ?_)
    refine xs 21 rfl (sf_fldC rfl TT.fldA_37_1 (by decide) rfl ?_)
    refine xs 22 rfl (sf_ldC (d := .val (.int .i64 (b1.fEpoch))) rfl TT.tyA_3 rfl (ldc_Row_1 _) ?_)
    refine xs 23 rfl (sf_lss (a := (a0.fEpoch)) (b := (b1.fEpoch)) rfl rfl rfl ?_)
    refine xz 4 (pB (decide ((a0.fEpoch) < (b1.fEpoch)))) ?_
    refine QW.ret zL ?_
    obtain rfl := sO h
    exact Ends.one (.inr rfl) rfl (ResIs.tmp rfl) rfl rfl
inductive C_ref47_Rises where
  | S
  | L1 (v3 : Int)
noncomputable def step_ref47_Rises (l0 : (List Row)) : C_ref47_Rises → Option (C_ref47_Rises ⊕ Bool)
  | .S =>
    some (.inl (.L1 (1)))
  | .L1 v3 =>
    (bif (decide (v3 < (l0.length : Int))) then
    gO (inI (v3 - (1 : Int))) (
    gO (0 ≤ (v3 - (1 : Int)) ∧ (v3 - (1 : Int)) < (l0.length : Int)) (
    gO (0 ≤ v3 ∧ v3 < (l0.length : Int)) (
    ((g_ref47_Less (idx l0 (v3 - (1 : Int))) (idx l0 v3)).bind fun (x_6 : Bool) =>
    (bif (!x_6) then
    some (.inr false)
    else
    gO (inI (v3 + (1 : Int))) (
    some (.inl (.L1 (v3 + (1 : Int))))))))))
    else
    some (.inr true))
noncomputable def g_ref47_Rises (l0 : (List Row)) : Option Bool := theC (step_ref47_Rises l0) .S
theorem sim_ref47_Rises (l0 : (List Row)) (r : Bool) (h : g_ref47_Rises l0 = some r) : Fun Try.prog 57 [.slice (l0.map eRow)] (.val (.bool r)) := by
  refine Fun.of_bodyQ Try.func57 rfl (by simp [Try.ntmps57]) ?_
  rw [Try.ntmps57, TT.res_57]
  refine QW.view (s' := ⟨tab [(0, .d (.slice (l0.map eRow)))], tabH [], 0, []⟩) (View.init (by rfl)) zL ?_
  replace h := theC_get h
  obtain ⟨_, h⟩ := h
  obtain ⟨k_0, rfl, h9⟩ := run_succ h; replace h := h9; clear h9; rw [step_ref47_Rises] at h
  refine sR ?_
  refine xz 2 (pB false) ?_
  refine QW.seq ?_
  refine sR ?_
  refine xz 3 (pI (1)) ?_
  refine QW.block ?_
  refine QW.loop (fun k σ => ∃ v3 : Int, k ≤ k_0 ∧ run (step_ref47_Rises l0) k (.L1 v3) = some r ∧ σ = ⟨tab [(0, .d (.slice (l0.map eRow))), (3, pI v3)], tabH [], 0, []⟩) k_0 zL ⟨⟨tab [(0, .d (.slice (l0.map eRow))), (3, pI (1))], tabH [], 0, []⟩, View.mk 0 [] _ _ _ rfl rfl (by decide) (iC (iC trivial)) trivial rfl zL rfl, 1, Nat.le_refl _, jG h, rfl⟩ ?_
  rintro k_1s _ ⟨v3, k_1h, h, rfl⟩
  obtain ⟨k_1, rfl, h9⟩ := run_succ h; replace h := h9; clear h9; rw [step_ref47_Rises] at h
  refine QW.seq ?_
  refine sR ?_
  refine xm 4 (pI v3) ?_
  refine xm 5 (.d (.slice (l0.map eRow))) ?_
  refine xs 6 rfl (sf_lenL (en := eRow) (l := l0) rfl TT.under_22 rfl ?_)
  refine xs 7 rfl (sf_lss (a := v3) (b := (l0.length : Int)) rfl rfl rfl ?_)
  refine XK.nz ?_
  refine QW.cond (t := (decide (v3 < (l0.length : Int)))) rfl zL (fun hb_2 => ?_) (fun hb_2 => ?_)
  · replace h := bGT h hb_2
    refine QW.skip zL (nrm ?_)
    refine QW.seq ?_
    refine QW.block ?_
    refine QW.seq ?_
    refine QW.region zL (PW.regQ (id := 4) mixedX (M := _) rfl (by kernel_rfl) ?_)
    refine RQ.st (some 10) rfl rfl (sf_move (v := .d (.slice (l0.map eRow))) rfl rfl ⟨⟨rfl, rfl⟩, ?_⟩)
    refine RQ.st (some 11) rfl rfl (sf_move (v := pI v3) rfl rfl ⟨⟨rfl, rfl⟩, ?_⟩)
    obtain ⟨c_3, h⟩ := gG h
    refine RQ.st (some 12) rfl rfl (sf_sub (a := v3) (b := (1 : Int)) rfl rfl rfl c_3 ⟨⟨rfl, rfl⟩, ?_⟩)
    obtain ⟨c_4, h⟩ := gG h
    refine RQ.st (some 13) rfl rfl (sf_idxA (l := l0) (i := (v3 - (1 : Int))) rfl TT.slcA_22 lay_Row rfl rfl c_4 ⟨⟨rfl, rfl⟩, ?_⟩)
    refine RQ.st (some 14) rfl rfl (sf_ldC (d := .agg (cRow (idx l0 (v3 - (1 : Int))))) rfl TT.tyA_37 rfl (⟨by rw [lay_Row.len]; decide, congrArg D.agg (List.take_of_length_le (by rw [lay_Row.len]; decide))⟩) ⟨⟨rfl, rfl⟩, ?_⟩)
    refine RQ.st (some 15) rfl rfl (sf_move (v := .d (.slice (l0.map eRow))) rfl rfl ⟨⟨rfl, rfl⟩, ?_⟩)
    refine RQ.st (some 16) rfl rfl (sf_move (v := pI v3) rfl rfl ⟨⟨rfl, rfl⟩, ?_⟩)
    obtain ⟨c_5, h⟩ := gG h
    refine RQ.st (some 17) rfl rfl (sf_idxA (l := l0) (i := v3) rfl TT.slcA_22 lay_Row rfl rfl c_5 ⟨⟨rfl, rfl⟩, ?_⟩)
    refine RQ.st (some 18) rfl rfl (sf_ldC (d := .agg (cRow (idx l0 v3))) rfl TT.tyA_37 rfl (⟨by rw [lay_Row.len]; decide, congrArg D.agg (List.take_of_length_le (by rw [lay_Row.len]; decide))⟩) ⟨⟨rfl, rfl⟩, ?_⟩)
    obtain ⟨x_6, hx_7, h⟩ := bG h
    refine RQ.st (some 19) rfl rfl (sf_call rfl rfl TT.enters_28 rfl (sim_ref47_Less (idx l0 (v3 - (1 : Int))) (idx l0 v3) _ hx_7) ⟨⟨rfl, rfl⟩, ?_⟩)
    refine RQ.st (some 20) rfl rfl (sf_not rfl rfl ⟨⟨rfl, rfl⟩, ?_⟩)
    refine RQ.nil (nrm ?_)
    refine QW.cond (t := (!x_6)) rfl zL (fun hb_8 => ?_) (fun hb_8 => ?_)
    · replace h := bGT h hb_8
      refine sR ?_
      refine xz 2 (pB false) ?_
      refine QW.ret zL (blR (thR (thR (blR (thR ?_)))))
      obtain rfl := sG h
      exact Ends.one (.inr rfl) rfl (ResIs.tmp rfl) rfl rfl
    · replace h := bGF h hb_8
      refine QW.skip zL (blN (nrm ?_))
      refine rG ?_
      refine xm 8 (pI v3) ?_
      obtain ⟨c_9, h⟩ := gG h
      refine xs 9 rfl (sf_add (a := v3) (b := (1 : Int)) rfl rfl rfl c_9 ?_)
      refine xz 3 (pI (v3 + (1 : Int))) ?_
      exact ⟨k_1, by omega, ⟨tab [(0, .d (.slice (l0.map eRow))), (3, pI (v3 + (1 : Int)))], tabH [], 0, []⟩, View.mk 0 [] _ _ _ rfl rfl (by decide) (iC (iC trivial)) trivial rfl zL rfl, (v3 + (1 : Int)), by omega, jG h, rfl⟩
  · replace h := bGF h hb_2
    refine QW.exit zL (thX (thX (exE (nrm ?_))))
    refine sR ?_
    refine xz 2 (pB true) ?_
    refine QW.ret zL ?_
    obtain rfl := sG h
    exact Ends.one (.inr rfl) rfl (ResIs.tmp rfl) rfl rfl
inductive C_ref47_May where
  | S
  | L1 (v3 : Int)
noncomputable def step_ref47_May (l0 : (List Row)) : C_ref47_May → Option (C_ref47_May ⊕ Bool)
  | .S =>
    some (.inl (.L1 (0)))
  | .L1 v3 =>
    (bif (decide (v3 < (l0.length : Int))) then
    gO (0 ≤ v3 ∧ v3 < (l0.length : Int)) (
    gO ((decide (((idx l0 v3).fEpoch) < (0 : Int))) = false → 0 ≤ v3 ∧ v3 < (l0.length : Int)) (
    gO (((decide (((idx l0 v3).fEpoch) < (0 : Int))) || (decide ((1048576 : Int) < ((idx l0 v3).fEpoch)))) = false → 0 ≤ v3 ∧ v3 < (l0.length : Int)) (
    (bif (((decide (((idx l0 v3).fEpoch) < (0 : Int))) || (decide ((1048576 : Int) < ((idx l0 v3).fEpoch)))) || (decide ((70000 : Int) < (((idx l0 v3).fBody).length : Int)))) then
    some (.inr false)
    else
    gO (inI (v3 + (1 : Int))) (
    some (.inl (.L1 (v3 + (1 : Int)))))))))
    else
    ((bif ((decide ((l0.length : Int) ≤ (8 : Int))) == true) then g_ref47_Rises l0 else some default).bind fun (x_8 : Bool) =>
    some (.inr ((decide ((l0.length : Int) ≤ (8 : Int))) && x_8))))
noncomputable def g_ref47_May (l0 : (List Row)) : Option Bool := theC (step_ref47_May l0) .S
end Go.Proofs.Ytoeppofkmcdknaa.K
