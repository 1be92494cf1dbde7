/- The reference of layer 47: what it reckons. -/
import Derived.Test.YtoeppofkmcdknaaWPage
import Derived.KernelRfl
namespace Go.Proofs.Ytoeppofkmcdknaa.K
open Go Go.RowKit
set_option linter.unusedSimpArgs false
set_option linter.unusedVariables false
namespace TT
theorem arrA_117 : arrA Try.prog 117 = some (32, 1, false) := by kernel_rfl
theorem arrB_35_32 : arrB Try.prog 35 32 = true := by kernel_rfl
theorem enters_28 : entersB Try.prog 28 = true := by kernel_rfl
theorem enters_57 : entersB Try.prog 57 = true := by kernel_rfl
theorem enters_87 : entersB Try.prog 87 = true := by kernel_rfl
theorem enters_88 : entersB Try.prog 88 = true := by kernel_rfl
theorem enters_89 : entersB Try.prog 89 = true := by kernel_rfl
theorem res_18 : Try.f18.results.toList = [.tmp 2] := rfl
theorem res_21 : Try.f21.results.toList = [.tmp 4] := rfl
theorem res_23 : Try.f23.results.toList = [.tmp 2] := rfl
theorem res_24 : Try.f24.results.toList = [.tmp 2] := rfl
theorem res_27 : Try.f27.results.toList = [.tmp 6] := rfl
theorem res_28 : Try.f28.results.toList = [.tmp 4] := rfl
theorem res_57 : Try.f57.results.toList = [.tmp 2] := rfl
theorem res_87 : Try.f87.results.toList = [.tmp 4] := rfl
theorem res_88 : Try.f88.results.toList = [.tmp 2] := rfl
theorem res_89 : Try.f89.results.toList = [.tmp 2] := rfl
theorem slcA_117 : slcA Try.prog 117 = none := by kernel_rfl
end TT

inductive C_ref16_Bytes where
  | S
  | L1 (v3 : (List UInt8)) (v4 : Int)

noncomputable def step_ref16_Bytes (k0 : (Arr 32 UInt8)) : C_ref16_Bytes → Option (C_ref16_Bytes ⊕ (List UInt8))
  | .S =>
    some (.inl (.L1 ([] : List UInt8) (0)))
  | .L1 v3 v4 =>
    (bif (decide (v4 < (32 : Int))) then
    gO (0 ≤ v4 ∧ v4 < ((32 : Nat) : Int)) (
    gO (v3.length + ([(idx k0.1 v4)] : List UInt8).length ≤ 9223372036854775807) (
    gO (inI (v4 + (1 : Int))) (
    some (.inl (.L1 (v3 ++ ([(idx k0.1 v4)] : List UInt8)) (v4 + (1 : Int)))))))
    else
    some (.inr v3))

noncomputable def g_ref16_Bytes (k0 : (Arr 32 UInt8)) : Option (List UInt8) := theC (step_ref16_Bytes k0) .S

set_option maxRecDepth 20000 in
set_option maxHeartbeats 4000000 in
theorem sim_ref16_Bytes (k0 : (Arr 32 UInt8)) (r : (List UInt8)) (h : g_ref16_Bytes k0 = some r) : Fun Try.prog 88 [.agg (k0.1.map byteD)] (.val (sV r)) := by
  refine Fun.of_bodyQ Try.func88 rfl (by simp [Try.ntmps88]) ?_
  rw [Try.ntmps88, TT.res_88]
  refine QW.view (s' := ⟨tab [(0, .d (.agg (k0.1.map byteD)))], tabH [], 0, []⟩) (View.init (by rfl)) (Nat.zero_le _) ?_
  replace h := theC_get h
  obtain ⟨_, h⟩ := h
  obtain ⟨k_0, rfl, h9⟩ := run_succ h; replace h := h9; clear h9; rw [step_ref16_Bytes] at h
  refine QW.seq ?_
  refine QW.region (Nat.zero_le _) (PW.regT (by kernel_rfl) ?_)
  refine XK.fz (some 1) rfl rfl (sf_boxF (ds := k0.1.map byteD) rfl rfl rfl rfl toDs_map ?_)
  refine XK.st (some 2) rfl rfl (sf_assign (v := .d (.val (sV ([] : List UInt8)))) rfl rfl ?_)
  refine XK.nil (nrm ?_)
  refine QW.seq ?_
  refine QW.region (Nat.zero_le _) (PW.regT (by kernel_rfl) ?_)
  refine XK.st (some 3) rfl rfl (sf_assign (v := .d (.val (sV ([] : List UInt8)))) rfl rfl ?_)
  refine XK.nil (nrm ?_)
  refine QW.seq ?_
  refine QW.seq ?_
  refine QW.region (Nat.zero_le _) (PW.regT (by kernel_rfl) ?_)
  refine XK.st (some 4) rfl rfl (sf_assign (v := .d (.val (.int .i64 (0)))) rfl rfl ?_)
  refine XK.nil (nrm ?_)
  refine QW.block ?_
  refine QW.loop (fun k σ => ∃ v3 : (List UInt8), ∃ v4 : Int, k ≤ k_0 ∧ run (step_ref16_Bytes k0) k (.L1 v3 v4) = some r ∧ σ = ⟨tab [(1, .d (.cptr (k0.1.map byteD))), (3, .d (.val (sV v3))), (4, .d (.val (.int .i64 v4)))], tabH [], 0, []⟩) k_0 (Nat.zero_le _) ⟨⟨tab [(1, .d (.cptr (k0.1.map byteD))), (3, .d (.val (sV ([] : List UInt8)))), (4, .d (.val (.int .i64 (0))))], tabH [], 0, []⟩, View.mk 0 [] _ _ _ rfl rfl (by decide) (And.intro (Imp.of_eq rfl) (And.intro (Imp.of_eq rfl) (And.intro (Imp.of_eq rfl) trivial))) trivial rfl (Nat.zero_le _) rfl, ([] : List UInt8), 0, Nat.le_refl _, jG h, rfl⟩ ?_
  rintro k_1s _ ⟨v3, v4, k_1h, h, rfl⟩
  obtain ⟨k_1, rfl, h9⟩ := run_succ h; replace h := h9; clear h9; rw [step_ref16_Bytes] at h
  refine QW.seq ?_
  refine QW.seq ?_
  refine QW.region (Nat.zero_le _) (PW.regT (by kernel_rfl) ?_)
  refine XK.st (some 5) rfl rfl (sf_move (v := .d (.val (.int .i64 v4))) rfl rfl ?_)
  refine XK.st (some 6) rfl rfl (sf_lss (a := v4) (b := (32 : Int)) rfl rfl rfl ?_)
  refine XK.nil (nrm ?_)
  refine QW.cond (t := (decide (v4 < (32 : Int)))) rfl (Nat.zero_le _) (fun hb_2 => ?_) (fun hb_2 => ?_)
  · replace h := bGT h hb_2
    refine QW.skip (Nat.zero_le _) (nrm ?_)
    refine QW.seq ?_
    refine QW.block ?_
    refine QW.region (Nat.zero_le _) (PW.regT (by kernel_rfl) ?_)
    refine XK.st (some 9) rfl rfl (sf_move (v := .d (.val (sV v3))) rfl rfl ?_)
    refine XK.st (some 10) rfl rfl (sf_move (v := .d (.val (.int .i64 v4))) rfl rfl ?_)
    obtain ⟨c_3, h⟩ := gG h
    refine XK.st (some 11) rfl rfl (sf_idxC (i := v4) rfl TT.slcA_117 TT.arrA_117 rfl rfl c_3 ?_)
    refine XK.st (some 12) rfl rfl (sf_ldC (d := .val (.int .u8 ((idx k0.1 v4).toNat : Int))) rfl TT.tyA_5 rfl (ld_arr (Pre.all _) c_3) ?_)
    refine XK.st (some 13) rfl rfl (sf_row (en := byteD) (l := ([(idx k0.1 v4)] : List UInt8)) rfl TT.rowA_49 lay_byte rfl rfl (by decide) (by simp [solids, partsP, evP, ofVal, PV.solid, putS_at, tab, unS, unT, unC, asCond, Value.oneCell']) ?_)
    refine XK.st (some 14) rfl rfl (sf_b2s (l := ([(idx k0.1 v4)] : List UInt8)) rfl TT.under_49 TT.under_5 TT.under_9 rfl ?_)
    obtain ⟨c_4, h⟩ := gG h
    refine XK.st (some 15) rfl rfl (sf_cat (a := v3) (b := ([(idx k0.1 v4)] : List UInt8)) rfl rfl rfl c_4 ?_)
    refine XK.st (some 3) rfl rfl (sf_assign (v := .d (.val (sV (v3 ++ ([(idx k0.1 v4)] : List UInt8))))) rfl rfl ?_)
    refine XK.nil (blN (nrm ?_))
    refine QW.region (Nat.zero_le _) (PW.regT (by kernel_rfl) ?_)
    refine XK.st (some 7) rfl rfl (sf_move (v := .d (.val (.int .i64 v4))) rfl rfl ?_)
    obtain ⟨c_5, h⟩ := gG h
    refine XK.st (some 8) rfl rfl (sf_add (a := v4) (b := (1 : Int)) rfl rfl rfl c_5 ?_)
    refine XK.st (some 4) rfl rfl (sf_assign (v := .d (.val (.int .i64 (v4 + (1 : Int))))) rfl rfl ?_)
    refine XK.nil (nrm ?_)
    exact ⟨k_1, by omega, ⟨tab [(1, .d (.cptr (k0.1.map byteD))), (3, .d (.val (sV (v3 ++ ([(idx k0.1 v4)] : List UInt8))))), (4, .d (.val (.int .i64 (v4 + (1 : Int)))))], tabH [], 0, []⟩, View.mk 0 [] _ _ _ rfl rfl (by decide) (And.intro (Imp.of_eq rfl) (And.intro (Imp.of_eq rfl) (And.intro (Imp.of_eq rfl) trivial))) trivial rfl (Nat.zero_le _) rfl, (v3 ++ ([(idx k0.1 v4)] : List UInt8)), (v4 + (1 : Int)), by omega, jG h, rfl⟩
  · replace h := bGF h hb_2
    refine QW.exit (Nat.zero_le _) (thX (thX (exE (nrm ?_))))
    refine QW.seq ?_
    refine QW.region (Nat.zero_le _) (PW.regT (by kernel_rfl) ?_)
    refine XK.st (some 16) rfl rfl (sf_move (v := .d (.val (sV v3))) rfl rfl ?_)
    refine XK.st (some 2) rfl rfl (sf_assign (v := .d (.val (sV v3))) rfl rfl ?_)
    refine XK.nil (nrm ?_)
    refine QW.ret (Nat.zero_le _) ?_
    obtain rfl := sG h
    exact Ends.one (.inr rfl) rfl (ResIs.tmp rfl) rfl rfl

noncomputable def g_ref47_Less (a0 : Row) (b1 : Row) : Option Bool :=
    ((g_ref16_Bytes (a0.fSum)).bind fun (x_1 : (List UInt8)) =>
    ((g_ref16_Bytes (b1.fSum)).bind fun (x_3 : (List UInt8)) =>
    (bif (!(x_1 == x_3)) then
    some (Op.bytesLess x_1 x_3)
    else
    some (decide ((a0.fEpoch) < (b1.fEpoch))))))

set_option maxRecDepth 20000 in
set_option maxHeartbeats 4000000 in
theorem sim_ref47_Less (a0 : Row) (b1 : Row) (r : Bool) (h : g_ref47_Less a0 b1 = some r) : Fun Try.prog 28 [.agg (cRow a0), .agg (cRow b1)] (.val (.bool r)) := by
  refine Fun.of_bodyQ Try.func28 rfl (by simp [Try.ntmps28]) ?_
  rw [Try.ntmps28, TT.res_28]
  refine QW.view (s' := ⟨tab [(0, .d (.agg (cRow a0))), (1, .d (.agg (cRow b1)))], tabH [], 0, []⟩) (View.init (by rfl)) (Nat.zero_le _) ?_
  unfold g_ref47_Less at h
  refine QW.seq ?_
  refine QW.region (Nat.zero_le _) (PW.regT (by kernel_rfl) ?_)
  refine XK.fz (some 2) rfl rfl (sf_boxF (ds := cRow a0) rfl rfl rfl rfl toDs_map ?_)
  refine XK.fz (some 3) rfl rfl (sf_boxF (ds := cRow b1) rfl rfl rfl rfl toDs_map ?_)
  refine XK.st (some 4) rfl rfl (sf_assign (v := .d (.val (.bool false))) rfl rfl ?_)
  refine XK.nil (nrm ?_)
  refine QW.seq ?_
  refine QW.region (Nat.zero_le _) (PW.regT (by kernel_rfl) ?_)
  refine XK.st (some 7) rfl rfl (sf_fldC rfl TT.fldA_37_0 (by decide) rfl ?_)
  refine XK.st (some 8) rfl rfl (sf_ldC (d := .agg ((a0.fSum).1.map byteD)) rfl TT.tyA_35 rfl (ldc_Row_0 _) ?_)
  obtain ⟨x_1, hx_2, h⟩ := bO h
  refine XK.st (some 9) rfl rfl (sf_call rfl rfl TT.enters_88 rfl (sim_ref16_Bytes (a0.fSum) _ hx_2) ?_)
  refine XK.st (some 5) rfl rfl (sf_assign (v := .d (.val (sV x_1))) rfl rfl ?_)
  refine XK.nil (nrm ?_)
  refine QW.seq ?_
  refine QW.region (Nat.zero_le _) (PW.regT (by kernel_rfl) ?_)
  refine XK.st (some 10) rfl rfl (sf_fldC rfl TT.fldA_37_0 (by decide) rfl ?_)
  refine XK.st (some 11) rfl rfl (sf_ldC (d := .agg ((b1.fSum).1.map byteD)) rfl TT.tyA_35 rfl (ldc_Row_0 _) ?_)
  obtain ⟨x_3, hx_4, h⟩ := bO h
  refine XK.st (some 12) rfl rfl (sf_call rfl rfl TT.enters_88 rfl (sim_ref16_Bytes (b1.fSum) _ hx_4) ?_)
  refine XK.st (some 6) rfl rfl (sf_assign (v := .d (.val (sV x_3))) rfl rfl ?_)
  refine XK.nil (nrm ?_)
  refine QW.seq ?_
  refine QW.seq ?_
  refine QW.region (Nat.zero_le _) (PW.regT (by kernel_rfl) ?_)
  refine XK.st (some 13) rfl rfl (sf_move (v := .d (.val (sV x_1))) rfl rfl ?_)
  refine XK.st (some 14) rfl rfl (sf_move (v := .d (.val (sV x_3))) rfl rfl ?_)
  refine XK.st (some 15) rfl rfl (sf_sne (a := x_1) (b := x_3) rfl rfl rfl ?_)
  refine XK.nil (nrm ?_)
  refine QW.cond (t := (!(x_1 == x_3))) rfl (Nat.zero_le _) (fun hb_5 => ?_) (fun hb_5 => ?_)
  · replace h := bT h hb_5
    refine QW.seq ?_
    refine QW.region (Nat.zero_le _) (PW.regT (by kernel_rfl) ?_)
    refine XK.st (some 16) rfl rfl (sf_move (v := .d (.val (sV x_1))) rfl rfl ?_)
    refine XK.st (some 17) rfl rfl (sf_move (v := .d (.val (sV x_3))) rfl rfl ?_)
    refine XK.st (some 18) rfl rfl (sf_slt (a := x_1) (b := x_3) rfl rfl rfl ?_)
    refine XK.st (some 4) rfl rfl (sf_assign (v := .d (.val (.bool (Op.bytesLess x_1 x_3)))) rfl rfl ?_)
    refine XK.nil (nrm ?_)
    refine QW.ret (Nat.zero_le _) (thR ?_)
    obtain rfl := sO h
    exact Ends.one (.inr rfl) rfl (ResIs.tmp rfl) rfl rfl
  · replace h := bF h hb_5
    refine QW.skip (Nat.zero_le _) (nrm ?_)
    refine QW.seq ?_
    refine QW.region (Nat.zero_le _) (PW.regT (by kernel_rfl) ?_)
    refine XK.st (some 19) rfl rfl (sf_fldC rfl TT.fldA_37_1 (by decide) rfl ?_)
    refine XK.st (some 20) rfl rfl (sf_ldC (d := .val (.int .i64 (a0.fEpoch))) rfl TT.tyA_3 rfl (ldc_Row_1 _) ?_)
    refine XK.st (some 21) rfl rfl (sf_fldC rfl TT.fldA_37_1 (by decide) rfl ?_)
    refine XK.st (some 22) rfl rfl (sf_ldC (d := .val (.int .i64 (b1.fEpoch))) rfl TT.tyA_3 rfl (ldc_Row_1 _) ?_)
    refine XK.st (some 23) rfl rfl (sf_lss (a := (a0.fEpoch)) (b := (b1.fEpoch)) rfl rfl rfl ?_)
    refine XK.st (some 4) rfl rfl (sf_assign (v := .d (.val (.bool (decide ((a0.fEpoch) < (b1.fEpoch)))))) rfl rfl ?_)
    refine XK.nil (nrm ?_)
    refine QW.ret (Nat.zero_le _) ?_
    obtain rfl := sO h
    exact Ends.one (.inr rfl) rfl (ResIs.tmp rfl) rfl rfl

inductive C_ref47_Rises where
  | S
  | L1 (v3 : Int)

noncomputable def step_ref47_Rises (l0 : (List Row)) : C_ref47_Rises → Option (C_ref47_Rises ⊕ Bool)
  | .S =>
    some (.inl (.L1 (1)))
  | .L1 v3 =>
    (bif (decide (v3 < (l0.length : Int))) then
    gO (inI (v3 - (1 : Int))) (
    gO (0 ≤ (v3 - (1 : Int)) ∧ (v3 - (1 : Int)) < (l0.length : Int)) (
    gO (0 ≤ v3 ∧ v3 < (l0.length : Int)) (
    ((g_ref47_Less (idx l0 (v3 - (1 : Int))) (idx l0 v3)).bind fun (x_6 : Bool) =>
    (bif (!x_6) then
    some (.inr false)
    else
    gO (inI (v3 + (1 : Int))) (
    some (.inl (.L1 (v3 + (1 : Int))))))))))
    else
    some (.inr true))

noncomputable def g_ref47_Rises (l0 : (List Row)) : Option Bool := theC (step_ref47_Rises l0) .S

set_option maxRecDepth 20000 in
set_option maxHeartbeats 4000000 in
theorem sim_ref47_Rises (l0 : (List Row)) (r : Bool) (h : g_ref47_Rises l0 = some r) : Fun Try.prog 57 [.slice (l0.map eRow)] (.val (.bool r)) := by
  refine Fun.of_bodyQ Try.func57 rfl (by simp [Try.ntmps57]) ?_
  rw [Try.ntmps57, TT.res_57]
  refine QW.view (s' := ⟨tab [(0, .d (.slice (l0.map eRow)))], tabH [], 0, []⟩) (View.init (by rfl)) (Nat.zero_le _) ?_
  replace h := theC_get h
  obtain ⟨_, h⟩ := h
  obtain ⟨k_0, rfl, h9⟩ := run_succ h; replace h := h9; clear h9; rw [step_ref47_Rises] at h
  refine QW.seq ?_
  refine QW.region (Nat.zero_le _) (PW.regT (by kernel_rfl) ?_)
  refine XK.st (some 2) rfl rfl (sf_assign (v := .d (.val (.bool false))) rfl rfl ?_)
  refine XK.nil (nrm ?_)
  refine QW.seq ?_
  refine QW.seq ?_
  refine QW.region (Nat.zero_le _) (PW.regT (by kernel_rfl) ?_)
  refine XK.st (some 3) rfl rfl (sf_assign (v := .d (.val (.int .i64 (1)))) rfl rfl ?_)
  refine XK.nil (nrm ?_)
  refine QW.block ?_
  refine QW.loop (fun k σ => ∃ v3 : Int, k ≤ k_0 ∧ run (step_ref47_Rises l0) k (.L1 v3) = some r ∧ σ = ⟨tab [(0, .d (.slice (l0.map eRow))), (3, .d (.val (.int .i64 v3)))], tabH [], 0, []⟩) k_0 (Nat.zero_le _) ⟨⟨tab [(0, .d (.slice (l0.map eRow))), (3, .d (.val (.int .i64 (1))))], tabH [], 0, []⟩, View.mk 0 [] _ _ _ rfl rfl (by decide) (And.intro (Imp.of_eq rfl) (And.intro (Imp.of_eq rfl) trivial)) trivial rfl (Nat.zero_le _) rfl, 1, Nat.le_refl _, jG h, rfl⟩ ?_
  rintro k_1s _ ⟨v3, k_1h, h, rfl⟩
  obtain ⟨k_1, rfl, h9⟩ := run_succ h; replace h := h9; clear h9; rw [step_ref47_Rises] at h
  refine QW.seq ?_
  refine QW.seq ?_
  refine QW.region (Nat.zero_le _) (PW.regT (by kernel_rfl) ?_)
  refine XK.st (some 4) rfl rfl (sf_move (v := .d (.val (.int .i64 v3))) rfl rfl ?_)
  refine XK.st (some 5) rfl rfl (sf_move (v := .d (.slice (l0.map eRow))) rfl rfl ?_)
  refine XK.st (some 6) rfl rfl (sf_lenL (en := eRow) (l := l0) rfl TT.under_22 rfl ?_)
  refine XK.st (some 7) rfl rfl (sf_lss (a := v3) (b := (l0.length : Int)) rfl rfl rfl ?_)
  refine XK.nil (nrm ?_)
  refine QW.cond (t := (decide (v3 < (l0.length : Int)))) rfl (Nat.zero_le _) (fun hb_2 => ?_) (fun hb_2 => ?_)
  · replace h := bGT h hb_2
    refine QW.skip (Nat.zero_le _) (nrm ?_)
    refine QW.seq ?_
    refine QW.block ?_
    refine QW.seq ?_
    refine QW.region (Nat.zero_le _) (PW.regQ (id := 4) mixedX (M := _) rfl (by kernel_rfl) ?_)
    refine RQ.st (some 10) rfl rfl (sf_move (v := .d (.slice (l0.map eRow))) rfl rfl ⟨⟨rfl, rfl⟩, ?_⟩)
    refine RQ.st (some 11) rfl rfl (sf_move (v := .d (.val (.int .i64 v3))) rfl rfl ⟨⟨rfl, rfl⟩, ?_⟩)
    obtain ⟨c_3, h⟩ := gG h
    refine RQ.st (some 12) rfl rfl (sf_sub (a := v3) (b := (1 : Int)) rfl rfl rfl c_3 ⟨⟨rfl, rfl⟩, ?_⟩)
    obtain ⟨c_4, h⟩ := gG h
    refine RQ.st (some 13) rfl rfl (sf_idxA (l := l0) (i := (v3 - (1 : Int))) rfl TT.slcA_22 lay_Row rfl rfl c_4 ⟨⟨rfl, rfl⟩, ?_⟩)
    refine RQ.st (some 14) rfl rfl (sf_ldC (d := .agg (cRow (idx l0 (v3 - (1 : Int))))) rfl TT.tyA_37 rfl (⟨by rw [lay_Row.len]; decide, congrArg D.agg (List.take_of_length_le (by rw [lay_Row.len]; decide))⟩) ⟨⟨rfl, rfl⟩, ?_⟩)
    refine RQ.st (some 15) rfl rfl (sf_move (v := .d (.slice (l0.map eRow))) rfl rfl ⟨⟨rfl, rfl⟩, ?_⟩)
    refine RQ.st (some 16) rfl rfl (sf_move (v := .d (.val (.int .i64 v3))) rfl rfl ⟨⟨rfl, rfl⟩, ?_⟩)
    obtain ⟨c_5, h⟩ := gG h
    refine RQ.st (some 17) rfl rfl (sf_idxA (l := l0) (i := v3) rfl TT.slcA_22 lay_Row rfl rfl c_5 ⟨⟨rfl, rfl⟩, ?_⟩)
    refine RQ.st (some 18) rfl rfl (sf_ldC (d := .agg (cRow (idx l0 v3))) rfl TT.tyA_37 rfl (⟨by rw [lay_Row.len]; decide, congrArg D.agg (List.take_of_length_le (by rw [lay_Row.len]; decide))⟩) ⟨⟨rfl, rfl⟩, ?_⟩)
    obtain ⟨x_6, hx_7, h⟩ := bG h
    refine RQ.st (some 19) rfl rfl (sf_call rfl rfl TT.enters_28 rfl (sim_ref47_Less (idx l0 (v3 - (1 : Int))) (idx l0 v3) _ hx_7) ⟨⟨rfl, rfl⟩, ?_⟩)
    refine RQ.st (some 20) rfl rfl (sf_not rfl rfl ⟨⟨rfl, rfl⟩, ?_⟩)
    refine RQ.nil (nrm ?_)
    refine QW.cond (t := (!x_6)) rfl (Nat.zero_le _) (fun hb_8 => ?_) (fun hb_8 => ?_)
    · replace h := bGT h hb_8
      refine QW.seq ?_
      refine QW.region (Nat.zero_le _) (PW.regT (by kernel_rfl) ?_)
      refine XK.st (some 2) rfl rfl (sf_assign (v := .d (.val (.bool false))) rfl rfl ?_)
      refine XK.nil (nrm ?_)
      refine QW.ret (Nat.zero_le _) (blR (thR (thR (blR (thR ?_)))))
      obtain rfl := sG h
      exact Ends.one (.inr rfl) rfl (ResIs.tmp rfl) rfl rfl
    · replace h := bGF h hb_8
      refine QW.skip (Nat.zero_le _) (blN (nrm ?_))
      refine QW.region (Nat.zero_le _) (PW.regT (by kernel_rfl) ?_)
      refine XK.st (some 8) rfl rfl (sf_move (v := .d (.val (.int .i64 v3))) rfl rfl ?_)
      obtain ⟨c_9, h⟩ := gG h
      refine XK.st (some 9) rfl rfl (sf_add (a := v3) (b := (1 : Int)) rfl rfl rfl c_9 ?_)
      refine XK.st (some 3) rfl rfl (sf_assign (v := .d (.val (.int .i64 (v3 + (1 : Int))))) rfl rfl ?_)
      refine XK.nil (nrm ?_)
      exact ⟨k_1, by omega, ⟨tab [(0, .d (.slice (l0.map eRow))), (3, .d (.val (.int .i64 (v3 + (1 : Int)))))], tabH [], 0, []⟩, View.mk 0 [] _ _ _ rfl rfl (by decide) (And.intro (Imp.of_eq rfl) (And.intro (Imp.of_eq rfl) trivial)) trivial rfl (Nat.zero_le _) rfl, (v3 + (1 : Int)), by omega, jG h, rfl⟩
  · replace h := bGF h hb_2
    refine QW.exit (Nat.zero_le _) (thX (thX (exE (nrm ?_))))
    refine QW.seq ?_
    refine QW.region (Nat.zero_le _) (PW.regT (by kernel_rfl) ?_)
    refine XK.st (some 2) rfl rfl (sf_assign (v := .d (.val (.bool true))) rfl rfl ?_)
    refine XK.nil (nrm ?_)
    refine QW.ret (Nat.zero_le _) ?_
    obtain rfl := sG h
    exact Ends.one (.inr rfl) rfl (ResIs.tmp rfl) rfl rfl

inductive C_ref47_May where
  | S
  | L1 (v3 : Int)

noncomputable def step_ref47_May (l0 : (List Row)) : C_ref47_May → Option (C_ref47_May ⊕ Bool)
  | .S =>
    some (.inl (.L1 (0)))
  | .L1 v3 =>
    (bif (decide (v3 < (l0.length : Int))) then
    gO (0 ≤ v3 ∧ v3 < (l0.length : Int)) (
    gO ((decide (((idx l0 v3).fEpoch) < (0 : Int))) = false → 0 ≤ v3 ∧ v3 < (l0.length : Int)) (
    gO (((decide (((idx l0 v3).fEpoch) < (0 : Int))) || (decide ((1048576 : Int) < ((idx l0 v3).fEpoch)))) = false → 0 ≤ v3 ∧ v3 < (l0.length : Int)) (
    (bif (((decide (((idx l0 v3).fEpoch) < (0 : Int))) || (decide ((1048576 : Int) < ((idx l0 v3).fEpoch)))) || (decide ((70000 : Int) < (((idx l0 v3).fBody).length : Int)))) then
    some (.inr false)
    else
    gO (inI (v3 + (1 : Int))) (
    some (.inl (.L1 (v3 + (1 : Int)))))))))
    else
    ((bif ((decide ((l0.length : Int) ≤ (8 : Int))) == true) then g_ref47_Rises l0 else some default).bind fun (x_8 : Bool) =>
    some (.inr ((decide ((l0.length : Int) ≤ (8 : Int))) && x_8))))

noncomputable def g_ref47_May (l0 : (List Row)) : Option Bool := theC (step_ref47_May l0) .S

set_option maxRecDepth 20000 in
set_option maxHeartbeats 4000000 in
theorem sim_ref47_May (l0 : (List Row)) (r : Bool) (h : g_ref47_May l0 = some r) : Fun Try.prog 18 [.slice (l0.map eRow)] (.val (.bool r)) := by
  refine Fun.of_bodyQ Try.func18 rfl (by simp [Try.ntmps18]) ?_
  rw [Try.ntmps18, TT.res_18]
  refine QW.view (s' := ⟨tab [(0, .d (.slice (l0.map eRow)))], tabH [], 0, []⟩) (View.init (by rfl)) (Nat.zero_le _) ?_
  replace h := theC_get h
  obtain ⟨_, h⟩ := h
  obtain ⟨k_0, rfl, h9⟩ := run_succ h; replace h := h9; clear h9; rw [step_ref47_May] at h
  refine QW.seq ?_
  refine QW.region (Nat.zero_le _) (PW.regT (by kernel_rfl) ?_)
  refine XK.st (some 2) rfl rfl (sf_assign (v := .d (.val (.bool false))) rfl rfl ?_)
  refine XK.nil (nrm ?_)
  refine QW.seq ?_
  refine QW.seq ?_
  refine QW.region (Nat.zero_le _) (PW.regT (by kernel_rfl) ?_)
  refine XK.st (some 3) rfl rfl (sf_assign (v := .d (.val (.int .i64 (0)))) rfl rfl ?_)
  refine XK.nil (nrm ?_)
  refine QW.block ?_
  refine QW.loop (fun k σ => ∃ v3 : Int, k ≤ k_0 ∧ run (step_ref47_May l0) k (.L1 v3) = some r ∧ σ = ⟨tab [(0, .d (.slice (l0.map eRow))), (3, .d (.val (.int .i64 v3)))], tabH [], 0, []⟩) k_0 (Nat.zero_le _) ⟨⟨tab [(0, .d (.slice (l0.map eRow))), (3, .d (.val (.int .i64 (0))))], tabH [], 0, []⟩, View.mk 0 [] _ _ _ rfl rfl (by decide) (And.intro (Imp.of_eq rfl) (And.intro (Imp.of_eq rfl) trivial)) trivial rfl (Nat.zero_le _) rfl, 0, Nat.le_refl _, jG h, rfl⟩ ?_
  rintro k_1s _ ⟨v3, k_1h, h, rfl⟩
  obtain ⟨k_1, rfl, h9⟩ := run_succ h; replace h := h9; clear h9; rw [step_ref47_May] at h
  refine QW.seq ?_
  refine QW.seq ?_
  refine QW.region (Nat.zero_le _) (PW.regT (by kernel_rfl) ?_)
  refine XK.st (some 4) rfl rfl (sf_move (v := .d (.val (.int .i64 v3))) rfl rfl ?_)
  refine XK.st (some 5) rfl rfl (sf_move (v := .d (.slice (l0.map eRow))) rfl rfl ?_)
  refine XK.st (some 6) rfl rfl (sf_lenL (en := eRow) (l := l0) rfl TT.under_22 rfl ?_)
  refine XK.st (some 7) rfl rfl (sf_lss (a := v3) (b := (l0.length : Int)) rfl rfl rfl ?_)
  refine XK.nil (nrm ?_)
  refine QW.cond (t := (decide (v3 < (l0.length : Int)))) rfl (Nat.zero_le _) (fun hb_2 => ?_) (fun hb_2 => ?_)
  · replace h := bGT h hb_2
    refine QW.skip (Nat.zero_le _) (nrm ?_)
    refine QW.seq ?_
    refine QW.block ?_
    refine QW.seq ?_
    refine QW.region (Nat.zero_le _) (PW.regT (by kernel_rfl) ?_)
    refine XK.st (some 10) rfl rfl (sf_move (v := .d (.slice (l0.map eRow))) rfl rfl ?_)
    refine XK.st (some 11) rfl rfl (sf_move (v := .d (.val (.int .i64 v3))) rfl rfl ?_)
    obtain ⟨c_3, h⟩ := gG h
    refine XK.st (some 12) rfl rfl (sf_idxA (l := l0) (i := v3) rfl TT.slcA_22 lay_Row rfl rfl c_3 ?_)
    refine XK.st (some 13) rfl rfl (sf_fldC rfl TT.fldA_37_1 (by decide) rfl ?_)
    refine XK.st (some 14) rfl rfl (sf_ldC (d := .val (.int .i64 ((idx l0 v3).fEpoch))) rfl TT.tyA_3 rfl (ldc_Row_1 _) ?_)
    refine XK.st (some 15) rfl rfl (sf_lss (a := ((idx l0 v3).fEpoch)) (b := (0 : Int)) rfl rfl rfl ?_)
    refine XK.st (some 16) rfl rfl (sf_move (v := .d (.val (.bool (decide (((idx l0 v3).fEpoch) < (0 : Int)))))) rfl rfl ?_)
    refine XK.gd (v := .d (.slice (l0.map eRow))) (T := []) (some 17) rfl rfl (by repeat (first | exact trivial | refine And.intro (fun hg => by first | rfl | exact hg | exact (Bool.and_eq_true_iff.mp hg).1 | exact (Bool.and_eq_true_iff.mp (Bool.and_eq_true_iff.mp hg).1).1) ?_)) (fun hg => sf_move (v := .d (.slice (l0.map eRow))) rfl rfl ⟨⟨rfl, rfl, rfl⟩, rfl, Imp.refl⟩) (fun _ _ hi => nomatch hi) ?_
    refine XK.gd (v := .d (.val (.int .i64 v3))) (T := []) (some 18) rfl rfl (by repeat (first | exact trivial | refine And.intro (fun hg => by first | rfl | exact hg | exact (Bool.and_eq_true_iff.mp hg).1 | exact (Bool.and_eq_true_iff.mp (Bool.and_eq_true_iff.mp hg).1).1) ?_)) (fun hg => sf_move (v := .d (.val (.int .i64 v3))) rfl rfl ⟨⟨rfl, rfl, rfl⟩, rfl, Imp.refl⟩) (fun _ _ hi => nomatch hi) ?_
    obtain ⟨c_4, h⟩ := gG h
    refine XK.gd (v := .d (.cptr (cRow (idx l0 v3)))) (T := []) (some 19) rfl rfl (by repeat (first | exact trivial | refine And.intro (fun hg => by first | rfl | exact hg | exact (Bool.and_eq_true_iff.mp hg).1 | exact (Bool.and_eq_true_iff.mp (Bool.and_eq_true_iff.mp hg).1).1) ?_)) (fun hg => sf_idxA (l := l0) (i := v3) rfl TT.slcA_22 lay_Row rfl rfl (c_4 (eqB hg)) ⟨⟨rfl, rfl, rfl⟩, rfl, Imp.refl⟩) (fun _ _ hi => nomatch hi) ?_
    refine XK.gd (v := .d (.cptr ((cRow (idx l0 v3)).drop 32))) (T := []) (some 20) rfl rfl (by repeat (first | exact trivial | refine And.intro (fun hg => by first | rfl | exact hg | exact (Bool.and_eq_true_iff.mp hg).1 | exact (Bool.and_eq_true_iff.mp (Bool.and_eq_true_iff.mp hg).1).1) ?_)) (fun hg => sf_fldC rfl TT.fldA_37_1 (by decide) rfl ⟨⟨rfl, rfl, rfl⟩, rfl, Imp.refl⟩) (fun _ _ hi => nomatch hi) ?_
    refine XK.gd (v := .d (.val (.int .i64 ((idx l0 v3).fEpoch)))) (T := []) (some 21) rfl rfl (by repeat (first | exact trivial | refine And.intro (fun hg => by first | rfl | exact hg | exact (Bool.and_eq_true_iff.mp hg).1 | exact (Bool.and_eq_true_iff.mp (Bool.and_eq_true_iff.mp hg).1).1) ?_)) (fun hg => sf_ldC (d := .val (.int .i64 ((idx l0 v3).fEpoch))) rfl TT.tyA_3 rfl (ldc_Row_1 _) ⟨⟨rfl, rfl, rfl⟩, rfl, Imp.refl⟩) (fun _ _ hi => nomatch hi) ?_
    refine XK.gd (v := .d (.val (.bool (decide ((1048576 : Int) < ((idx l0 v3).fEpoch)))))) (T := []) (some 22) rfl rfl (by repeat (first | exact trivial | refine And.intro (fun hg => by first | rfl | exact hg | exact (Bool.and_eq_true_iff.mp hg).1 | exact (Bool.and_eq_true_iff.mp (Bool.and_eq_true_iff.mp hg).1).1) ?_)) (fun hg => sf_gtr (a := ((idx l0 v3).fEpoch)) (b := (1048576 : Int)) rfl rfl rfl ⟨⟨rfl, rfl, rfl⟩, rfl, Imp.refl⟩) (fun _ _ hi => nomatch hi) ?_
    refine XK.st (some 23) rfl rfl (sf_pickO rfl rfl rfl rfl (fun _ => rfl) (fun hb => by rw [hb]; rfl) ?_)
    refine XK.st (some 24) rfl rfl (sf_move (v := .d (.val (.bool ((decide (((idx l0 v3).fEpoch) < (0 : Int))) || (decide ((1048576 : Int) < ((idx l0 v3).fEpoch))))))) rfl rfl ?_)
    refine XK.gd (v := .d (.slice (l0.map eRow))) (T := []) (some 25) rfl rfl (by repeat (first | exact trivial | refine And.intro (fun hg => by first | rfl | exact hg | exact (Bool.and_eq_true_iff.mp hg).1 | exact (Bool.and_eq_true_iff.mp (Bool.and_eq_true_iff.mp hg).1).1) ?_)) (fun hg => sf_move (v := .d (.slice (l0.map eRow))) rfl rfl ⟨⟨rfl, rfl, rfl⟩, rfl, Imp.refl⟩) (fun _ _ hi => nomatch hi) ?_
    refine XK.gd (v := .d (.val (.int .i64 v3))) (T := []) (some 26) rfl rfl (by repeat (first | exact trivial | refine And.intro (fun hg => by first | rfl | exact hg | exact (Bool.and_eq_true_iff.mp hg).1 | exact (Bool.and_eq_true_iff.mp (Bool.and_eq_true_iff.mp hg).1).1) ?_)) (fun hg => sf_move (v := .d (.val (.int .i64 v3))) rfl rfl ⟨⟨rfl, rfl, rfl⟩, rfl, Imp.refl⟩) (fun _ _ hi => nomatch hi) ?_
    obtain ⟨c_5, h⟩ := gG h
    refine XK.gd (v := .d (.cptr (cRow (idx l0 v3)))) (T := []) (some 27) rfl rfl (by repeat (first | exact trivial | refine And.intro (fun hg => by first | rfl | exact hg | exact (Bool.and_eq_true_iff.mp hg).1 | exact (Bool.and_eq_true_iff.mp (Bool.and_eq_true_iff.mp hg).1).1) ?_)) (fun hg => sf_idxA (l := l0) (i := v3) rfl TT.slcA_22 lay_Row rfl rfl (c_5 (eqB hg)) ⟨⟨rfl, rfl, rfl⟩, rfl, Imp.refl⟩) (fun _ _ hi => nomatch hi) ?_
    refine XK.gd (v := .d (.cptr ((cRow (idx l0 v3)).drop 33))) (T := []) (some 28) rfl rfl (by repeat (first | exact trivial | refine And.intro (fun hg => by first | rfl | exact hg | exact (Bool.and_eq_true_iff.mp hg).1 | exact (Bool.and_eq_true_iff.mp (Bool.and_eq_true_iff.mp hg).1).1) ?_)) (fun hg => sf_fldC rfl TT.fldA_37_2 (by decide) rfl ⟨⟨rfl, rfl, rfl⟩, rfl, Imp.refl⟩) (fun _ _ hi => nomatch hi) ?_
    refine XK.gd (v := .d (.val (sV ((idx l0 v3).fBody)))) (T := []) (some 29) rfl rfl (by repeat (first | exact trivial | refine And.intro (fun hg => by first | rfl | exact hg | exact (Bool.and_eq_true_iff.mp hg).1 | exact (Bool.and_eq_true_iff.mp (Bool.and_eq_true_iff.mp hg).1).1) ?_)) (fun hg => sf_ldC (d := .val (sV ((idx l0 v3).fBody))) rfl TT.tyA_9 rfl (ldc_Row_2 _) ⟨⟨rfl, rfl, rfl⟩, rfl, Imp.refl⟩) (fun _ _ hi => nomatch hi) ?_
    refine XK.gd (v := .d (.val (.int .i64 (((idx l0 v3).fBody).length : Int)))) (T := []) (some 30) rfl rfl (by repeat (first | exact trivial | refine And.intro (fun hg => by first | rfl | exact hg | exact (Bool.and_eq_true_iff.mp hg).1 | exact (Bool.and_eq_true_iff.mp (Bool.and_eq_true_iff.mp hg).1).1) ?_)) (fun hg => sf_lenS (l := (idx l0 v3).fBody) rfl TT.under_9 rfl ⟨⟨rfl, rfl, rfl⟩, rfl, Imp.refl⟩) (fun _ _ hi => nomatch hi) ?_
    refine XK.gd (v := .d (.val (.bool (decide ((70000 : Int) < (((idx l0 v3).fBody).length : Int)))))) (T := []) (some 31) rfl rfl (by repeat (first | exact trivial | refine And.intro (fun hg => by first | rfl | exact hg | exact (Bool.and_eq_true_iff.mp hg).1 | exact (Bool.and_eq_true_iff.mp (Bool.and_eq_true_iff.mp hg).1).1) ?_)) (fun hg => sf_gtr (a := (((idx l0 v3).fBody).length : Int)) (b := (70000 : Int)) rfl rfl rfl ⟨⟨rfl, rfl, rfl⟩, rfl, Imp.refl⟩) (fun _ _ hi => nomatch hi) ?_
    refine XK.st (some 32) rfl rfl (sf_pickO rfl rfl rfl rfl (fun _ => rfl) (fun hb => by rw [hb]; rfl) ?_)
    refine XK.nil (nrm ?_)
    refine QW.cond (t := (((decide (((idx l0 v3).fEpoch) < (0 : Int))) || (decide ((1048576 : Int) < ((idx l0 v3).fEpoch)))) || (decide ((70000 : Int) < (((idx l0 v3).fBody).length : Int))))) rfl (Nat.zero_le _) (fun hb_6 => ?_) (fun hb_6 => ?_)
    · replace h := bGT h hb_6
      refine QW.seq ?_
      refine QW.region (Nat.zero_le _) (PW.regT (by kernel_rfl) ?_)
      refine XK.st (some 2) rfl rfl (sf_assign (v := .d (.val (.bool false))) rfl rfl ?_)
      refine XK.nil (nrm ?_)
      refine QW.ret (Nat.zero_le _) (blR (thR (thR (blR (thR ?_)))))
      obtain rfl := sG h
      exact Ends.one (.inr rfl) rfl (ResIs.tmp rfl) rfl rfl
    · replace h := bGF h hb_6
      refine QW.skip (Nat.zero_le _) (blN (nrm ?_))
      refine QW.region (Nat.zero_le _) (PW.regT (by kernel_rfl) ?_)
      refine XK.st (some 8) rfl rfl (sf_move (v := .d (.val (.int .i64 v3))) rfl rfl ?_)
      obtain ⟨c_7, h⟩ := gG h
      refine XK.st (some 9) rfl rfl (sf_add (a := v3) (b := (1 : Int)) rfl rfl rfl c_7 ?_)
      refine XK.st (some 3) rfl rfl (sf_assign (v := .d (.val (.int .i64 (v3 + (1 : Int))))) rfl rfl ?_)
      refine XK.nil (nrm ?_)
      exact ⟨k_1, by omega, ⟨tab [(0, .d (.slice (l0.map eRow))), (3, .d (.val (.int .i64 (v3 + (1 : Int)))))], tabH [], 0, []⟩, View.mk 0 [] _ _ _ rfl rfl (by decide) (And.intro (Imp.of_eq rfl) (And.intro (Imp.of_eq rfl) trivial)) trivial rfl (Nat.zero_le _) rfl, (v3 + (1 : Int)), by omega, jG h, rfl⟩
  · replace h := bGF h hb_2
    refine QW.exit (Nat.zero_le _) (thX (thX (exE (nrm ?_))))
    refine QW.seq ?_
    refine QW.region (Nat.zero_le _) (PW.regT (by kernel_rfl) ?_)
    refine XK.st (some 33) rfl rfl (sf_move (v := .d (.slice (l0.map eRow))) rfl rfl ?_)
    refine XK.st (some 34) rfl rfl (sf_lenL (en := eRow) (l := l0) rfl TT.under_22 rfl ?_)
    refine XK.st (some 35) rfl rfl (sf_leq (a := (l0.length : Int)) (b := (8 : Int)) rfl rfl rfl ?_)
    refine XK.st (some 36) rfl rfl (sf_move (v := .d (.val (.bool (decide ((l0.length : Int) ≤ (8 : Int)))))) rfl rfl ?_)
    refine XK.gd (v := .d (.slice (l0.map eRow))) (T := []) (some 37) rfl rfl (by repeat (first | exact trivial | refine And.intro (fun hg => by first | rfl | exact hg | exact (Bool.and_eq_true_iff.mp hg).1 | exact (Bool.and_eq_true_iff.mp (Bool.and_eq_true_iff.mp hg).1).1) ?_)) (fun hg => sf_move (v := .d (.slice (l0.map eRow))) rfl rfl ⟨⟨rfl, rfl, rfl⟩, rfl, Imp.refl⟩) (fun _ _ hi => nomatch hi) ?_
    obtain ⟨x_8, hx_9, h⟩ := bG h
    refine XK.gd (v := .d (.val (.bool x_8))) (T := []) (some 38) rfl rfl (by repeat (first | exact trivial | refine And.intro (fun hg => by first | rfl | exact hg | exact (Bool.and_eq_true_iff.mp hg).1 | exact (Bool.and_eq_true_iff.mp (Bool.and_eq_true_iff.mp hg).1).1) ?_)) (fun hg => sf_call rfl rfl TT.enters_57 rfl (sim_ref47_Rises l0 _ (bT hx_9 hg)) ⟨⟨rfl, rfl, rfl⟩, rfl, Imp.refl⟩) (fun _ _ hi => nomatch hi) ?_
    refine XK.st (some 39) rfl rfl (sf_pickA rfl rfl rfl rfl (fun hb => by rw [hb]; rfl) (fun _ => rfl) ?_)
    refine XK.st (some 2) rfl rfl (sf_assign (v := .d (.val (.bool ((decide ((l0.length : Int) ≤ (8 : Int))) && x_8)))) rfl rfl ?_)
    refine XK.nil (nrm ?_)
    refine QW.ret (Nat.zero_le _) ?_
    obtain rfl := sG h
    exact Ends.one (.inr rfl) rfl (ResIs.tmp rfl) rfl rfl

inductive C_ref47_Same where
  | S
  | L1 (v5 : Int)

noncomputable def step_ref47_Same (a0 : (List Row)) (b1 : (List Row)) : C_ref47_Same → Option (C_ref47_Same ⊕ Bool)
  | .S =>
    (bif (!decide ((a0.length : Int) = (b1.length : Int))) then
    some (.inr false)
    else
    some (.inl (.L1 (0))))
  | .L1 v5 =>
    (bif (decide (v5 < (a0.length : Int))) then
    gO (0 ≤ v5 ∧ v5 < (a0.length : Int)) (
    gO (0 ≤ v5 ∧ v5 < (b1.length : Int)) (
    (bif (!(beqRow (idx a0 v5) (idx b1 v5))) then
    some (.inr false)
    else
    gO (inI (v5 + (1 : Int))) (
    some (.inl (.L1 (v5 + (1 : Int))))))))
    else
    some (.inr true))

noncomputable def g_ref47_Same (a0 : (List Row)) (b1 : (List Row)) : Option Bool := theC (step_ref47_Same a0 b1) .S

set_option maxRecDepth 20000 in
set_option maxHeartbeats 4000000 in
theorem sim_ref47_Same (a0 : (List Row)) (b1 : (List Row)) (r : Bool) (h : g_ref47_Same a0 b1 = some r) : Fun Try.prog 21 [.slice (a0.map eRow), .slice (b1.map eRow)] (.val (.bool r)) := by
  refine Fun.of_bodyQ Try.func21 rfl (by simp [Try.ntmps21]) ?_
  rw [Try.ntmps21, TT.res_21]
  refine QW.view (s' := ⟨tab [(0, .d (.slice (a0.map eRow))), (1, .d (.slice (b1.map eRow)))], tabH [], 0, []⟩) (View.init (by rfl)) (Nat.zero_le _) ?_
  replace h := theC_get h
  obtain ⟨_, h⟩ := h
  obtain ⟨k_0, rfl, h9⟩ := run_succ h; replace h := h9; clear h9; rw [step_ref47_Same] at h
  refine QW.seq ?_
  refine QW.region (Nat.zero_le _) (PW.regT (by kernel_rfl) ?_)
  refine XK.st (some 4) rfl rfl (sf_assign (v := .d (.val (.bool false))) rfl rfl ?_)
  refine XK.nil (nrm ?_)
  refine QW.seq ?_
  refine QW.seq ?_
  refine QW.region (Nat.zero_le _) (PW.regT (by kernel_rfl) ?_)
  refine XK.st (some 6) rfl rfl (sf_move (v := .d (.slice (a0.map eRow))) rfl rfl ?_)
  refine XK.st (some 7) rfl rfl (sf_lenL (en := eRow) (l := a0) rfl TT.under_22 rfl ?_)
  refine XK.st (some 8) rfl rfl (sf_move (v := .d (.slice (b1.map eRow))) rfl rfl ?_)
  refine XK.st (some 9) rfl rfl (sf_lenL (en := eRow) (l := b1) rfl TT.under_22 rfl ?_)
  refine XK.st (some 10) rfl rfl (sf_ne (a := (a0.length : Int)) (b := (b1.length : Int)) rfl rfl rfl ?_)
  refine XK.nil (nrm ?_)
  refine QW.cond (t := (!decide ((a0.length : Int) = (b1.length : Int)))) rfl (Nat.zero_le _) (fun hb_1 => ?_) (fun hb_1 => ?_)
  · replace h := bGT h hb_1
    refine QW.seq ?_
    refine QW.region (Nat.zero_le _) (PW.regT (by kernel_rfl) ?_)
    refine XK.st (some 4) rfl rfl (sf_assign (v := .d (.val (.bool false))) rfl rfl ?_)
    refine XK.nil (nrm ?_)
    refine QW.ret (Nat.zero_le _) (thR ?_)
    obtain rfl := sG h
    exact Ends.one (.inr rfl) rfl (ResIs.tmp rfl) rfl rfl
  · replace h := bGF h hb_1
    refine QW.skip (Nat.zero_le _) (nrm ?_)
    refine QW.seq ?_
    refine QW.seq ?_
    refine QW.region (Nat.zero_le _) (PW.regT (by kernel_rfl) ?_)
    refine XK.st (some 5) rfl rfl (sf_assign (v := .d (.val (.int .i64 (0)))) rfl rfl ?_)
    refine XK.nil (nrm ?_)
    refine QW.block ?_
    refine QW.loop (fun k σ => ∃ v5 : Int, k ≤ k_0 ∧ run (step_ref47_Same a0 b1) k (.L1 v5) = some r ∧ σ = ⟨tab [(0, .d (.slice (a0.map eRow))), (1, .d (.slice (b1.map eRow))), (5, .d (.val (.int .i64 v5)))], tabH [], 0, []⟩) k_0 (Nat.zero_le _) ⟨⟨tab [(0, .d (.slice (a0.map eRow))), (1, .d (.slice (b1.map eRow))), (5, .d (.val (.int .i64 (0))))], tabH [], 0, []⟩, View.mk 0 [] _ _ _ rfl rfl (by decide) (And.intro (Imp.of_eq rfl) (And.intro (Imp.of_eq rfl) (And.intro (Imp.of_eq rfl) trivial))) trivial rfl (Nat.zero_le _) rfl, 0, Nat.le_refl _, jG h, rfl⟩ ?_
    rintro k_2s _ ⟨v5, k_2h, h, rfl⟩
    obtain ⟨k_2, rfl, h9⟩ := run_succ h; replace h := h9; clear h9; rw [step_ref47_Same] at h
    refine QW.seq ?_
    refine QW.seq ?_
    refine QW.region (Nat.zero_le _) (PW.regT (by kernel_rfl) ?_)
    refine XK.st (some 11) rfl rfl (sf_move (v := .d (.val (.int .i64 v5))) rfl rfl ?_)
    refine XK.st (some 12) rfl rfl (sf_move (v := .d (.slice (a0.map eRow))) rfl rfl ?_)
    refine XK.st (some 13) rfl rfl (sf_lenL (en := eRow) (l := a0) rfl TT.under_22 rfl ?_)
    refine XK.st (some 14) rfl rfl (sf_lss (a := v5) (b := (a0.length : Int)) rfl rfl rfl ?_)
    refine XK.nil (nrm ?_)
    refine QW.cond (t := (decide (v5 < (a0.length : Int)))) rfl (Nat.zero_le _) (fun hb_3 => ?_) (fun hb_3 => ?_)
    · replace h := bGT h hb_3
      refine QW.skip (Nat.zero_le _) (nrm ?_)
      refine QW.seq ?_
      refine QW.block ?_
      refine QW.seq ?_
      refine QW.region (Nat.zero_le _) (PW.regQ (id := 6) mixedX (M := _) rfl (by kernel_rfl) ?_)
      refine RQ.st (some 17) rfl rfl (sf_move (v := .d (.slice (a0.map eRow))) rfl rfl ⟨⟨rfl, rfl⟩, ?_⟩)
      refine RQ.st (some 18) rfl rfl (sf_move (v := .d (.val (.int .i64 v5))) rfl rfl ⟨⟨rfl, rfl⟩, ?_⟩)
      obtain ⟨c_4, h⟩ := gG h
      refine RQ.st (some 19) rfl rfl (sf_idxA (l := a0) (i := v5) rfl TT.slcA_22 lay_Row rfl rfl c_4 ⟨⟨rfl, rfl⟩, ?_⟩)
      refine RQ.st (some 20) rfl rfl (sf_ldC (d := .agg (cRow (idx a0 v5))) rfl TT.tyA_37 rfl (⟨by rw [lay_Row.len]; decide, congrArg D.agg (List.take_of_length_le (by rw [lay_Row.len]; decide))⟩) ⟨⟨rfl, rfl⟩, ?_⟩)
      refine RQ.st (some 21) rfl rfl (sf_move (v := .d (.slice (b1.map eRow))) rfl rfl ⟨⟨rfl, rfl⟩, ?_⟩)
      refine RQ.st (some 22) rfl rfl (sf_move (v := .d (.val (.int .i64 v5))) rfl rfl ⟨⟨rfl, rfl⟩, ?_⟩)
      obtain ⟨c_5, h⟩ := gG h
      refine RQ.st (some 23) rfl rfl (sf_idxA (l := b1) (i := v5) rfl TT.slcA_22 lay_Row rfl rfl c_5 ⟨⟨rfl, rfl⟩, ?_⟩)
      refine RQ.st (some 24) rfl rfl (sf_ldC (d := .agg (cRow (idx b1 v5))) rfl TT.tyA_37 rfl (⟨by rw [lay_Row.len]; decide, congrArg D.agg (List.take_of_length_le (by rw [lay_Row.len]; decide))⟩) ⟨⟨rfl, rfl⟩, ?_⟩)
      refine RQ.st (some 25) rfl rfl (sf_aggne rfl rfl rfl rfl (eqr_Row (idx a0 v5) (idx b1 v5)) ⟨⟨rfl, rfl⟩, ?_⟩)
      refine RQ.nil (nrm ?_)
      refine QW.cond (t := (!(beqRow (idx a0 v5) (idx b1 v5)))) rfl (Nat.zero_le _) (fun hb_6 => ?_) (fun hb_6 => ?_)
      · replace h := bGT h hb_6
        refine QW.seq ?_
        refine QW.region (Nat.zero_le _) (PW.regT (by kernel_rfl) ?_)
        refine XK.st (some 4) rfl rfl (sf_assign (v := .d (.val (.bool false))) rfl rfl ?_)
        refine XK.nil (nrm ?_)
        refine QW.ret (Nat.zero_le _) (blR (thR (thR (blR (thR ?_)))))
        obtain rfl := sG h
        exact Ends.one (.inr rfl) rfl (ResIs.tmp rfl) rfl rfl
      · replace h := bGF h hb_6
        refine QW.skip (Nat.zero_le _) (blN (nrm ?_))
        refine QW.region (Nat.zero_le _) (PW.regT (by kernel_rfl) ?_)
        refine XK.st (some 15) rfl rfl (sf_move (v := .d (.val (.int .i64 v5))) rfl rfl ?_)
        obtain ⟨c_7, h⟩ := gG h
        refine XK.st (some 16) rfl rfl (sf_add (a := v5) (b := (1 : Int)) rfl rfl rfl c_7 ?_)
        refine XK.st (some 5) rfl rfl (sf_assign (v := .d (.val (.int .i64 (v5 + (1 : Int))))) rfl rfl ?_)
        refine XK.nil (nrm ?_)
        exact ⟨k_2, by omega, ⟨tab [(0, .d (.slice (a0.map eRow))), (1, .d (.slice (b1.map eRow))), (5, .d (.val (.int .i64 (v5 + (1 : Int)))))], tabH [], 0, []⟩, View.mk 0 [] _ _ _ rfl rfl (by decide) (And.intro (Imp.of_eq rfl) (And.intro (Imp.of_eq rfl) (And.intro (Imp.of_eq rfl) trivial))) trivial rfl (Nat.zero_le _) rfl, (v5 + (1 : Int)), by omega, jG h, rfl⟩
    · replace h := bGF h hb_3
      refine QW.exit (Nat.zero_le _) (thX (thX (exE (nrm ?_))))
      refine QW.seq ?_
      refine QW.region (Nat.zero_le _) (PW.regT (by kernel_rfl) ?_)
      refine XK.st (some 4) rfl rfl (sf_assign (v := .d (.val (.bool true))) rfl rfl ?_)
      refine XK.nil (nrm ?_)
      refine QW.ret (Nat.zero_le _) ?_
      obtain rfl := sG h
      exact Ends.one (.inr rfl) rfl (ResIs.tmp rfl) rfl rfl

inductive C_ref01_Num where
  | S
  | L1 (n0_2 : (BitVec 64)) (v5 : (List UInt8)) (v6 : Int)

noncomputable def step_ref01_Num (n0 : (BitVec 64)) (w1 : Int) : C_ref01_Num → Option (C_ref01_Num ⊕ (List UInt8))
  | .S =>
    some (.inl (.L1 n0 ([] : List UInt8) (0)))
  | .L1 n0_2 v5 v6 =>
    (bif (decide (v6 < w1)) then
    gO (v5.length + ([(u8I ((n0_2 % (256 : BitVec 64)).toNat : Int))] : List UInt8).length ≤ 9223372036854775807) (
    gO (inI (v6 + (1 : Int))) (
    some (.inl (.L1 (n0_2 / (256 : BitVec 64)) (v5 ++ ([(u8I ((n0_2 % (256 : BitVec 64)).toNat : Int))] : List UInt8)) (v6 + (1 : Int))))))
    else
    some (.inr v5))

noncomputable def g_ref01_Num (n0 : (BitVec 64)) (w1 : Int) : Option (List UInt8) := theC (step_ref01_Num n0 w1) .S

set_option maxRecDepth 20000 in
set_option maxHeartbeats 4000000 in
theorem sim_ref01_Num (n0 : (BitVec 64)) (w1 : Int) (r : (List UInt8)) (h : g_ref01_Num n0 w1 = some r) : Fun Try.prog 87 [.val (.int .u64 (n0.toNat : Int)), .val (.int .i64 w1)] (.val (sV r)) := by
  refine Fun.of_bodyQ Try.func87 rfl (by simp [Try.ntmps87]) ?_
  rw [Try.ntmps87, TT.res_87]
  refine QW.view (s' := ⟨tab [(0, .d (.val (.int .u64 (n0.toNat : Int)))), (1, .d (.val (.int .i64 w1)))], tabH [], 0, []⟩) (View.init (by rfl)) (Nat.zero_le _) ?_
  replace h := theC_get h
  obtain ⟨_, h⟩ := h
  obtain ⟨k_0, rfl, h9⟩ := run_succ h; replace h := h9; clear h9; rw [step_ref01_Num] at h
  refine QW.seq ?_
  refine QW.region (Nat.zero_le _) (PW.regT (by kernel_rfl) ?_)
  refine XK.st (some 4) rfl rfl (sf_assign (v := .d (.val (sV ([] : List UInt8)))) rfl rfl ?_)
  refine XK.nil (nrm ?_)
  refine QW.seq ?_
  refine QW.region (Nat.zero_le _) (PW.regT (by kernel_rfl) ?_)
  refine XK.st (some 5) rfl rfl (sf_assign (v := .d (.val (sV ([] : List UInt8)))) rfl rfl ?_)
  refine XK.nil (nrm ?_)
  refine QW.seq ?_
  refine QW.seq ?_
  refine QW.region (Nat.zero_le _) (PW.regT (by kernel_rfl) ?_)
  refine XK.st (some 6) rfl rfl (sf_assign (v := .d (.val (.int .i64 (0)))) rfl rfl ?_)
  refine XK.nil (nrm ?_)
  refine QW.block ?_
  refine QW.loop (fun k σ => ∃ n0_2 : (BitVec 64), ∃ v5 : (List UInt8), ∃ v6 : Int, k ≤ k_0 ∧ run (step_ref01_Num n0 w1) k (.L1 n0_2 v5 v6) = some r ∧ σ = ⟨tab [(0, .d (.val (.int .u64 (n0_2.toNat : Int)))), (1, .d (.val (.int .i64 w1))), (5, .d (.val (sV v5))), (6, .d (.val (.int .i64 v6)))], tabH [], 0, []⟩) k_0 (Nat.zero_le _) ⟨⟨tab [(0, .d (.val (.int .u64 (n0.toNat : Int)))), (1, .d (.val (.int .i64 w1))), (5, .d (.val (sV ([] : List UInt8)))), (6, .d (.val (.int .i64 (0))))], tabH [], 0, []⟩, View.mk 0 [] _ _ _ rfl rfl (by decide) (And.intro (Imp.of_eq rfl) (And.intro (Imp.of_eq rfl) (And.intro (Imp.of_eq rfl) (And.intro (Imp.of_eq rfl) trivial)))) trivial rfl (Nat.zero_le _) rfl, n0, ([] : List UInt8), 0, Nat.le_refl _, jG h, rfl⟩ ?_
  rintro k_1s _ ⟨n0_2, v5, v6, k_1h, h, rfl⟩
  obtain ⟨k_1, rfl, h9⟩ := run_succ h; replace h := h9; clear h9; rw [step_ref01_Num] at h
  refine QW.seq ?_
  refine QW.seq ?_
  refine QW.region (Nat.zero_le _) (PW.regT (by kernel_rfl) ?_)
  refine XK.st (some 7) rfl rfl (sf_move (v := .d (.val (.int .i64 v6))) rfl rfl ?_)
  refine XK.st (some 8) rfl rfl (sf_move (v := .d (.val (.int .i64 w1))) rfl rfl ?_)
  refine XK.st (some 9) rfl rfl (sf_lss (a := v6) (b := w1) rfl rfl rfl ?_)
  refine XK.nil (nrm ?_)
  refine QW.cond (t := (decide (v6 < w1))) rfl (Nat.zero_le _) (fun hb_2 => ?_) (fun hb_2 => ?_)
  · replace h := bGT h hb_2
    refine QW.skip (Nat.zero_le _) (nrm ?_)
    refine QW.seq ?_
    refine QW.block ?_
    refine QW.seq ?_
    refine QW.region (Nat.zero_le _) (PW.regT (by kernel_rfl) ?_)
    refine XK.st (some 12) rfl rfl (sf_move (v := .d (.val (sV v5))) rfl rfl ?_)
    refine XK.st (some 13) rfl rfl (sf_move (v := .d (.val (.int .u64 (n0_2.toNat : Int)))) rfl rfl ?_)
    refine XK.st (some 14) rfl rfl (sf_wrem' (a := n0_2) (b := (256 : BitVec 64)) rfl rfl rfl (by decide) ?_)
    refine XK.st (some 15) rfl rfl (sf_toU8 (n := ((n0_2 % (256 : BitVec 64)).toNat : Int)) rfl TT.under_105 TT.under_5 rfl ?_)
    refine XK.st (some 16) rfl rfl (sf_row (en := byteD) (l := ([(u8I ((n0_2 % (256 : BitVec 64)).toNat : Int))] : List UInt8)) rfl TT.rowA_49 lay_byte rfl rfl (by decide) (by simp [solids, partsP, evP, ofVal, PV.solid, putS_at, tab, unS, unT, unC, asCond, Value.oneCell']) ?_)
    refine XK.st (some 17) rfl rfl (sf_b2s (l := ([(u8I ((n0_2 % (256 : BitVec 64)).toNat : Int))] : List UInt8)) rfl TT.under_49 TT.under_5 TT.under_9 rfl ?_)
    obtain ⟨c_3, h⟩ := gG h
    refine XK.st (some 18) rfl rfl (sf_cat (a := v5) (b := ([(u8I ((n0_2 % (256 : BitVec 64)).toNat : Int))] : List UInt8)) rfl rfl rfl c_3 ?_)
    refine XK.st (some 5) rfl rfl (sf_assign (v := .d (.val (sV (v5 ++ ([(u8I ((n0_2 % (256 : BitVec 64)).toNat : Int))] : List UInt8))))) rfl rfl ?_)
    refine XK.nil (nrm ?_)
    refine QW.region (Nat.zero_le _) (PW.regT (by kernel_rfl) ?_)
    refine XK.st (some 19) rfl rfl (sf_move (v := .d (.val (.int .u64 (n0_2.toNat : Int)))) rfl rfl ?_)
    refine XK.st (some 20) rfl rfl (sf_wquo' (a := n0_2) (b := (256 : BitVec 64)) rfl rfl rfl (by decide) ?_)
    refine XK.st (some 0) rfl rfl (sf_assign (v := .d (.val (.int .u64 ((n0_2 / (256 : BitVec 64)).toNat : Int)))) rfl rfl ?_)
    refine XK.nil (blN (nrm ?_))
    refine QW.region (Nat.zero_le _) (PW.regT (by kernel_rfl) ?_)
    refine XK.st (some 10) rfl rfl (sf_move (v := .d (.val (.int .i64 v6))) rfl rfl ?_)
    obtain ⟨c_4, h⟩ := gG h
    refine XK.st (some 11) rfl rfl (sf_add (a := v6) (b := (1 : Int)) rfl rfl rfl c_4 ?_)
    refine XK.st (some 6) rfl rfl (sf_assign (v := .d (.val (.int .i64 (v6 + (1 : Int))))) rfl rfl ?_)
    refine XK.nil (nrm ?_)
    exact ⟨k_1, by omega, ⟨tab [(0, .d (.val (.int .u64 ((n0_2 / (256 : BitVec 64)).toNat : Int)))), (1, .d (.val (.int .i64 w1))), (5, .d (.val (sV (v5 ++ ([(u8I ((n0_2 % (256 : BitVec 64)).toNat : Int))] : List UInt8))))), (6, .d (.val (.int .i64 (v6 + (1 : Int)))))], tabH [], 0, []⟩, View.mk 0 [] _ _ _ rfl rfl (by decide) (And.intro (Imp.of_eq rfl) (And.intro (Imp.of_eq rfl) (And.intro (Imp.of_eq rfl) (And.intro (Imp.of_eq rfl) trivial)))) trivial rfl (Nat.zero_le _) rfl, (n0_2 / (256 : BitVec 64)), (v5 ++ ([(u8I ((n0_2 % (256 : BitVec 64)).toNat : Int))] : List UInt8)), (v6 + (1 : Int)), by omega, jG h, rfl⟩
  · replace h := bGF h hb_2
    refine QW.exit (Nat.zero_le _) (thX (thX (exE (nrm ?_))))
    refine QW.seq ?_
    refine QW.region (Nat.zero_le _) (PW.regT (by kernel_rfl) ?_)
    refine XK.st (some 21) rfl rfl (sf_move (v := .d (.val (sV v5))) rfl rfl ?_)
    refine XK.st (some 4) rfl rfl (sf_assign (v := .d (.val (sV v5))) rfl rfl ?_)
    refine XK.nil (nrm ?_)
    refine QW.ret (Nat.zero_le _) ?_
    obtain rfl := sG h
    exact Ends.one (.inr rfl) rfl (ResIs.tmp rfl) rfl rfl

noncomputable def g_ref01_Text (s0 : (List UInt8)) : Option (List UInt8) :=
    ((g_ref01_Num (BitVec.ofInt 64 (s0.length : Int)) (4)).bind fun (x_1 : (List UInt8)) =>
    gO (x_1.length + s0.length ≤ 9223372036854775807) (
    some (x_1 ++ s0)))

set_option maxRecDepth 20000 in
set_option maxHeartbeats 4000000 in
theorem sim_ref01_Text (s0 : (List UInt8)) (r : (List UInt8)) (h : g_ref01_Text s0 = some r) : Fun Try.prog 89 [.val (sV s0)] (.val (sV r)) := by
  refine Fun.of_bodyQ Try.func89 rfl (by simp [Try.ntmps89]) ?_
  rw [Try.ntmps89, TT.res_89]
  refine QW.view (s' := ⟨tab [(0, .d (.val (sV s0)))], tabH [], 0, []⟩) (View.init (by rfl)) (Nat.zero_le _) ?_
  unfold g_ref01_Text at h
  refine QW.seq ?_
  refine QW.region (Nat.zero_le _) (PW.regT (by kernel_rfl) ?_)
  refine XK.st (some 2) rfl rfl (sf_assign (v := .d (.val (sV ([] : List UInt8)))) rfl rfl ?_)
  refine XK.nil (nrm ?_)
  refine QW.seq ?_
  refine QW.region (Nat.zero_le _) (PW.regT (by kernel_rfl) ?_)
  refine XK.st (some 3) rfl rfl (sf_move (v := .d (.val (sV s0))) rfl rfl ?_)
  refine XK.st (some 4) rfl rfl (sf_lenS (l := s0) rfl TT.under_9 rfl ?_)
  refine XK.st (some 5) rfl rfl (sf_toW (n := (s0.length : Int)) rfl TT.under_3 TT.under_105 rfl ?_)
  obtain ⟨x_1, hx_2, h⟩ := bO h
  refine XK.st (some 6) rfl rfl (sf_call rfl rfl TT.enters_87 rfl (sim_ref01_Num (BitVec.ofInt 64 (s0.length : Int)) (4) _ hx_2) ?_)
  refine XK.st (some 7) rfl rfl (sf_move (v := .d (.val (sV s0))) rfl rfl ?_)
  obtain ⟨c_3, h⟩ := gO_get h
  refine XK.st (some 8) rfl rfl (sf_cat (a := x_1) (b := s0) rfl rfl rfl c_3 ?_)
  refine XK.st (some 2) rfl rfl (sf_assign (v := .d (.val (sV (x_1 ++ s0)))) rfl rfl ?_)
  refine XK.nil (nrm ?_)
  refine QW.ret (Nat.zero_le _) ?_
  obtain rfl := sO h
  exact Ends.one (.inr rfl) rfl (ResIs.tmp rfl) rfl rfl

inductive C_ref47_Put where
  | S
  | L1 (v3_2 : (List UInt8)) (v4 : Int)

noncomputable def step_ref47_Put (l0 : (List Row)) : C_ref47_Put → Option (C_ref47_Put ⊕ (List UInt8))
  | .S =>
    ((g_ref01_Num (BitVec.ofInt 64 (l0.length : Int)) (1)).bind fun (x_1 : (List UInt8)) =>
    some (.inl (.L1 x_1 (0))))
  | .L1 v3_2 v4 =>
    (bif (decide (v4 < (l0.length : Int))) then
    gO (0 ≤ v4 ∧ v4 < (l0.length : Int)) (
    ((g_ref16_Bytes ((idx l0 v4).fSum)).bind fun (x_6 : (List UInt8)) =>
    gO (v3_2.length + x_6.length ≤ 9223372036854775807) (
    gO (0 ≤ v4 ∧ v4 < (l0.length : Int)) (
    ((g_ref01_Num (BitVec.ofInt 64 ((idx l0 v4).fEpoch)) (4)).bind fun (x_10 : (List UInt8)) =>
    gO ((v3_2 ++ x_6).length + x_10.length ≤ 9223372036854775807) (
    gO (0 ≤ v4 ∧ v4 < (l0.length : Int)) (
    ((g_ref01_Text ((idx l0 v4).fBody)).bind fun (x_14 : (List UInt8)) =>
    gO (((v3_2 ++ x_6) ++ x_10).length + x_14.length ≤ 9223372036854775807) (
    gO (inI (v4 + (1 : Int))) (
    some (.inl (.L1 (((v3_2 ++ x_6) ++ x_10) ++ x_14) (v4 + (1 : Int))))))))))))))
    else
    some (.inr v3_2))

noncomputable def g_ref47_Put (l0 : (List Row)) : Option (List UInt8) := theC (step_ref47_Put l0) .S

set_option maxRecDepth 20000 in
set_option maxHeartbeats 4000000 in
theorem sim_ref47_Put (l0 : (List Row)) (r : (List UInt8)) (h : g_ref47_Put l0 = some r) : Fun Try.prog 23 [.slice (l0.map eRow)] (.val (sV r)) := by
  refine Fun.of_bodyQ Try.func23 rfl (by simp [Try.ntmps23]) ?_
  rw [Try.ntmps23, TT.res_23]
  refine QW.view (s' := ⟨tab [(0, .d (.slice (l0.map eRow)))], tabH [], 0, []⟩) (View.init (by rfl)) (Nat.zero_le _) ?_
  replace h := theC_get h
  obtain ⟨_, h⟩ := h
  obtain ⟨k_0, rfl, h9⟩ := run_succ h; replace h := h9; clear h9; rw [step_ref47_Put] at h
  refine QW.seq ?_
  refine QW.region (Nat.zero_le _) (PW.regT (by kernel_rfl) ?_)
  refine XK.st (some 2) rfl rfl (sf_assign (v := .d (.val (sV ([] : List UInt8)))) rfl rfl ?_)
  refine XK.nil (nrm ?_)
  refine QW.seq ?_
  refine QW.region (Nat.zero_le _) (PW.regT (by kernel_rfl) ?_)
  refine XK.st (some 5) rfl rfl (sf_move (v := .d (.slice (l0.map eRow))) rfl rfl ?_)
  refine XK.st (some 6) rfl rfl (sf_lenL (en := eRow) (l := l0) rfl TT.under_22 rfl ?_)
  refine XK.st (some 7) rfl rfl (sf_toW (n := (l0.length : Int)) rfl TT.under_3 TT.under_105 rfl ?_)
  obtain ⟨x_1, hx_2, h⟩ := bG h
  refine XK.st (some 8) rfl rfl (sf_call rfl rfl TT.enters_87 rfl (sim_ref01_Num (BitVec.ofInt 64 (l0.length : Int)) (1) _ hx_2) ?_)
  refine XK.st (some 3) rfl rfl (sf_assign (v := .d (.val (sV x_1))) rfl rfl ?_)
  refine XK.nil (nrm ?_)
  refine QW.seq ?_
  refine QW.seq ?_
  refine QW.region (Nat.zero_le _) (PW.regT (by kernel_rfl) ?_)
  refine XK.st (some 4) rfl rfl (sf_assign (v := .d (.val (.int .i64 (0)))) rfl rfl ?_)
  refine XK.nil (nrm ?_)
  refine QW.block ?_
  refine QW.loop (fun k σ => ∃ v3_2 : (List UInt8), ∃ v4 : Int, k ≤ k_0 ∧ run (step_ref47_Put l0) k (.L1 v3_2 v4) = some r ∧ σ = ⟨tab [(0, .d (.slice (l0.map eRow))), (3, .d (.val (sV v3_2))), (4, .d (.val (.int .i64 v4)))], tabH [], 0, []⟩) k_0 (Nat.zero_le _) ⟨⟨tab [(0, .d (.slice (l0.map eRow))), (3, .d (.val (sV x_1))), (4, .d (.val (.int .i64 (0))))], tabH [], 0, []⟩, View.mk 0 [] _ _ _ rfl rfl (by decide) (And.intro (Imp.of_eq rfl) (And.intro (Imp.of_eq rfl) (And.intro (Imp.of_eq rfl) trivial))) trivial rfl (Nat.zero_le _) rfl, x_1, 0, Nat.le_refl _, jG h, rfl⟩ ?_
  rintro k_3s _ ⟨v3_2, v4, k_3h, h, rfl⟩
  obtain ⟨k_3, rfl, h9⟩ := run_succ h; replace h := h9; clear h9; rw [step_ref47_Put] at h
  refine QW.seq ?_
  refine QW.seq ?_
  refine QW.region (Nat.zero_le _) (PW.regT (by kernel_rfl) ?_)
  refine XK.st (some 9) rfl rfl (sf_move (v := .d (.val (.int .i64 v4))) rfl rfl ?_)
  refine XK.st (some 10) rfl rfl (sf_move (v := .d (.slice (l0.map eRow))) rfl rfl ?_)
  refine XK.st (some 11) rfl rfl (sf_lenL (en := eRow) (l := l0) rfl TT.under_22 rfl ?_)
  refine XK.st (some 12) rfl rfl (sf_lss (a := v4) (b := (l0.length : Int)) rfl rfl rfl ?_)
  refine XK.nil (nrm ?_)
  refine QW.cond (t := (decide (v4 < (l0.length : Int)))) rfl (Nat.zero_le _) (fun hb_4 => ?_) (fun hb_4 => ?_)
  · replace h := bGT h hb_4
    refine QW.skip (Nat.zero_le _) (nrm ?_)
    refine QW.seq ?_
    refine QW.block ?_
    refine QW.region (Nat.zero_le _) (PW.regQ (id := 5) mixedX (M := _) rfl (by kernel_rfl) ?_)
    refine RQ.st (some 15) rfl rfl (sf_move (v := .d (.val (sV v3_2))) rfl rfl ⟨⟨rfl, rfl⟩, ?_⟩)
    refine RQ.st (some 16) rfl rfl (sf_move (v := .d (.slice (l0.map eRow))) rfl rfl ⟨⟨rfl, rfl⟩, ?_⟩)
    refine RQ.st (some 17) rfl rfl (sf_move (v := .d (.val (.int .i64 v4))) rfl rfl ⟨⟨rfl, rfl⟩, ?_⟩)
    obtain ⟨c_5, h⟩ := gG h
    refine RQ.st (some 18) rfl rfl (sf_idxA (l := l0) (i := v4) rfl TT.slcA_22 lay_Row rfl rfl c_5 ⟨⟨rfl, rfl⟩, ?_⟩)
    refine RQ.st (some 19) rfl rfl (sf_fldC rfl TT.fldA_37_0 (by decide) rfl ⟨⟨rfl, rfl⟩, ?_⟩)
    refine RQ.st (some 20) rfl rfl (sf_ldC (d := .agg (((idx l0 v4).fSum).1.map byteD)) rfl TT.tyA_35 rfl (ldc_Row_0 _) ⟨⟨rfl, rfl⟩, ?_⟩)
    obtain ⟨x_6, hx_7, h⟩ := bG h
    refine RQ.st (some 21) rfl rfl (sf_call rfl rfl TT.enters_88 rfl (sim_ref16_Bytes ((idx l0 v4).fSum) _ hx_7) ⟨⟨rfl, rfl⟩, ?_⟩)
    obtain ⟨c_8, h⟩ := gG h
    refine RQ.st (some 22) rfl rfl (sf_cat (a := v3_2) (b := x_6) rfl rfl rfl c_8 ⟨⟨rfl, rfl⟩, ?_⟩)
    refine RQ.st (some 23) rfl rfl (sf_move (v := .d (.slice (l0.map eRow))) rfl rfl ⟨⟨rfl, rfl⟩, ?_⟩)
    refine RQ.st (some 24) rfl rfl (sf_move (v := .d (.val (.int .i64 v4))) rfl rfl ⟨⟨rfl, rfl⟩, ?_⟩)
    obtain ⟨c_9, h⟩ := gG h
    refine RQ.st (some 25) rfl rfl (sf_idxA (l := l0) (i := v4) rfl TT.slcA_22 lay_Row rfl rfl c_9 ⟨⟨rfl, rfl⟩, ?_⟩)
    refine RQ.st (some 26) rfl rfl (sf_fldC rfl TT.fldA_37_1 (by decide) rfl ⟨⟨rfl, rfl⟩, ?_⟩)
    refine RQ.st (some 27) rfl rfl (sf_ldC (d := .val (.int .i64 ((idx l0 v4).fEpoch))) rfl TT.tyA_3 rfl (ldc_Row_1 _) ⟨⟨rfl, rfl⟩, ?_⟩)
    refine RQ.st (some 28) rfl rfl (sf_toW (n := ((idx l0 v4).fEpoch)) rfl TT.under_3 TT.under_105 rfl ⟨⟨rfl, rfl⟩, ?_⟩)
    obtain ⟨x_10, hx_11, h⟩ := bG h
    refine RQ.st (some 29) rfl rfl (sf_call rfl rfl TT.enters_87 rfl (sim_ref01_Num (BitVec.ofInt 64 ((idx l0 v4).fEpoch)) (4) _ hx_11) ⟨⟨rfl, rfl⟩, ?_⟩)
    obtain ⟨c_12, h⟩ := gG h
    refine RQ.st (some 30) rfl rfl (sf_cat (a := (v3_2 ++ x_6)) (b := x_10) rfl rfl rfl c_12 ⟨⟨rfl, rfl⟩, ?_⟩)
    refine RQ.st (some 31) rfl rfl (sf_move (v := .d (.slice (l0.map eRow))) rfl rfl ⟨⟨rfl, rfl⟩, ?_⟩)
    refine RQ.st (some 32) rfl rfl (sf_move (v := .d (.val (.int .i64 v4))) rfl rfl ⟨⟨rfl, rfl⟩, ?_⟩)
    obtain ⟨c_13, h⟩ := gG h
    refine RQ.st (some 33) rfl rfl (sf_idxA (l := l0) (i := v4) rfl TT.slcA_22 lay_Row rfl rfl c_13 ⟨⟨rfl, rfl⟩, ?_⟩)
    refine RQ.st (some 34) rfl rfl (sf_fldC rfl TT.fldA_37_2 (by decide) rfl ⟨⟨rfl, rfl⟩, ?_⟩)
    refine RQ.st (some 35) rfl rfl (sf_ldC (d := .val (sV ((idx l0 v4).fBody))) rfl TT.tyA_9 rfl (ldc_Row_2 _) ⟨⟨rfl, rfl⟩, ?_⟩)
    obtain ⟨x_14, hx_15, h⟩ := bG h
    refine RQ.st (some 36) rfl rfl (sf_call rfl rfl TT.enters_89 rfl (sim_ref01_Text ((idx l0 v4).fBody) _ hx_15) ⟨⟨rfl, rfl⟩, ?_⟩)
    obtain ⟨c_16, h⟩ := gG h
    refine RQ.st (some 37) rfl rfl (sf_cat (a := ((v3_2 ++ x_6) ++ x_10)) (b := x_14) rfl rfl rfl c_16 ⟨⟨rfl, rfl⟩, ?_⟩)
    refine RQ.st (some 3) rfl rfl (sf_assign (v := .d (.val (sV (((v3_2 ++ x_6) ++ x_10) ++ x_14)))) rfl rfl ⟨⟨rfl, rfl⟩, ?_⟩)
    refine RQ.nil (blN (nrm ?_))
    refine QW.view (s' := ⟨tab [(0, .d (.slice (l0.map eRow))), (3, .d (.val (sV (((v3_2 ++ x_6) ++ x_10) ++ x_14)))), (4, .d (.val (.int .i64 v4)))], tabH [], 0, []⟩) (View.mk 0 [] _ _ _ rfl rfl (by decide) (And.intro (Imp.of_eq rfl) (And.intro (Imp.of_eq rfl) (And.intro (Imp.of_eq rfl) trivial))) trivial rfl (Nat.zero_le _) rfl) (Nat.zero_le _) ?_
    refine QW.region (Nat.zero_le _) (PW.regT (by kernel_rfl) ?_)
    refine XK.st (some 13) rfl rfl (sf_move (v := .d (.val (.int .i64 v4))) rfl rfl ?_)
    obtain ⟨c_17, h⟩ := gG h
    refine XK.st (some 14) rfl rfl (sf_add (a := v4) (b := (1 : Int)) rfl rfl rfl c_17 ?_)
    refine XK.st (some 4) rfl rfl (sf_assign (v := .d (.val (.int .i64 (v4 + (1 : Int))))) rfl rfl ?_)
    refine XK.nil (nrm ?_)
    exact ⟨k_3, by omega, ⟨tab [(0, .d (.slice (l0.map eRow))), (3, .d (.val (sV (((v3_2 ++ x_6) ++ x_10) ++ x_14)))), (4, .d (.val (.int .i64 (v4 + (1 : Int)))))], tabH [], 0, []⟩, View.mk 0 [] _ _ _ rfl rfl (by decide) (And.intro (Imp.of_eq rfl) (And.intro (Imp.of_eq rfl) (And.intro (Imp.of_eq rfl) trivial))) trivial rfl (Nat.zero_le _) rfl, (((v3_2 ++ x_6) ++ x_10) ++ x_14), (v4 + (1 : Int)), by omega, jG h, rfl⟩
  · replace h := bGF h hb_4
    refine QW.exit (Nat.zero_le _) (thX (thX (exE (nrm ?_))))
    refine QW.seq ?_
    refine QW.region (Nat.zero_le _) (PW.regT (by kernel_rfl) ?_)
    refine XK.st (some 38) rfl rfl (sf_move (v := .d (.val (sV v3_2))) rfl rfl ?_)
    refine XK.st (some 2) rfl rfl (sf_assign (v := .d (.val (sV v3_2))) rfl rfl ?_)
    refine XK.nil (nrm ?_)
    refine QW.ret (Nat.zero_le _) ?_
    obtain rfl := sG h
    exact Ends.one (.inr rfl) rfl (ResIs.tmp rfl) rfl rfl

inductive C_ref47_Sort where
  | S
  | L1 (v3_2 : (List Row)) (v4 : Int)
  | L3 (v3_10 : (List Row)) (v4_9 : Int) (v5_4 : Int)
  | J2 (v3_8 : (List Row)) (v4_7 : Int)

noncomputable def step_ref47_Sort (l0 : (List Row)) : C_ref47_Sort → Option (C_ref47_Sort ⊕ (List Row))
  | .S =>
    some (.inl (.L1 ([] : (List Row)) (0)))
  | .L1 v3_2 v4 =>
    (bif (decide (v4 < (l0.length : Int))) then
    some (.inl (.L3 v3_2 v4 (0)))
    else
    some (.inr v3_2))
  | .L3 v3_10 v4_9 v5_4 =>
    gO ((decide (v5_4 < (v3_10.length : Int))) = true → 0 ≤ v5_4 ∧ v5_4 < (v3_10.length : Int)) (
    gO ((decide (v5_4 < (v3_10.length : Int))) = true → 0 ≤ v4_9 ∧ v4_9 < (l0.length : Int)) (
    ((bif ((decide (v5_4 < (v3_10.length : Int))) == true) then g_ref47_Less (idx v3_10 v5_4) (idx l0 v4_9) else some default).bind fun (x_6 : Bool) =>
    (bif ((decide (v5_4 < (v3_10.length : Int))) && x_6) then
    gO (inI (v5_4 + (1 : Int))) (
    some (.inl (.L3 v3_10 v4_9 (v5_4 + (1 : Int)))))
    else
    gO ((decide (v5_4 < (v3_10.length : Int))) = true → 0 ≤ v5_4 ∧ v5_4 < (v3_10.length : Int)) (
    gO ((decide (v5_4 < (v3_10.length : Int))) = true → 0 ≤ v4_9 ∧ v4_9 < (l0.length : Int)) (
    gO ((((decide (v5_4 < (v3_10.length : Int))) && (((idx v3_10 v5_4).fSum).1 == ((idx l0 v4_9).fSum).1)) == true) = true → 0 ≤ v5_4 ∧ v5_4 < (v3_10.length : Int)) (
    gO ((((decide (v5_4 < (v3_10.length : Int))) && (((idx v3_10 v5_4).fSum).1 == ((idx l0 v4_9).fSum).1)) == true) = true → 0 ≤ v4_9 ∧ v4_9 < (l0.length : Int)) (
    (bif (((decide (v5_4 < (v3_10.length : Int))) && (((idx v3_10 v5_4).fSum).1 == ((idx l0 v4_9).fSum).1)) && (decide (((idx v3_10 v5_4).fEpoch) = ((idx l0 v4_9).fEpoch)))) then
    some (.inl (.J2 v3_10 v4_9))
    else
    gO (0 ≤ (0 : Int) ∧ (0 : Int) ≤ v5_4 ∧ v5_4 ≤ (v3_10.length : Int)) (
    gO ((([] : List Row).length + (sub v3_10 (0 : Int) v5_4).length) * 56 ≤ 140737488355328) (
    gO (0 ≤ v4_9 ∧ v4_9 < (l0.length : Int)) (
    gO (((([] : List Row) ++ (sub v3_10 (0 : Int) v5_4)).length + ([(idx l0 v4_9)] : List Row).length) * 56 ≤ 140737488355328) (
    gO (0 ≤ v5_4 ∧ v5_4 ≤ (v3_10.length : Int) ∧ (v3_10.length : Int) ≤ (v3_10.length : Int)) (
    gO ((((([] : List Row) ++ (sub v3_10 (0 : Int) v5_4)) ++ ([(idx l0 v4_9)] : List Row)).length + (sub v3_10 v5_4 (v3_10.length : Int)).length) * 56 ≤ 140737488355328) (
    some (.inl (.J2 (((([] : List Row) ++ (sub v3_10 (0 : Int) v5_4)) ++ ([(idx l0 v4_9)] : List Row)) ++ (sub v3_10 v5_4 (v3_10.length : Int))) v4_9)))))))))))))))))
  | .J2 v3_8 v4_7 =>
    gO (inI (v4_7 + (1 : Int))) (
    some (.inl (.L1 v3_8 (v4_7 + (1 : Int)))))

noncomputable def g_ref47_Sort (l0 : (List Row)) : Option (List Row) := theC (step_ref47_Sort l0) .S

set_option maxRecDepth 20000 in
set_option maxHeartbeats 4000000 in
theorem sim_ref47_Sort (l0 : (List Row)) (r : (List Row)) (h : g_ref47_Sort l0 = some r) : Fun Try.prog 24 [.slice (l0.map eRow)] (.slice (r.map eRow)) := by
  refine Fun.of_bodyQ Try.func24 rfl (by simp [Try.ntmps24]) ?_
  rw [Try.ntmps24, TT.res_24]
  refine QW.view (s' := ⟨tab [(0, .d (.slice (l0.map eRow)))], tabH [], 0, []⟩) (View.init (by rfl)) (Nat.zero_le _) ?_
  replace h := theC_get h
  obtain ⟨_, h⟩ := h
  obtain ⟨k_0, rfl, h9⟩ := run_succ h; replace h := h9; clear h9; rw [step_ref47_Sort] at h
  refine QW.seq ?_
  refine QW.region (Nat.zero_le _) (PW.regT (by kernel_rfl) ?_)
  refine XK.st (some 2) rfl rfl (sf_assign (v := .full (([] : (List Row)).map eRow)) rfl rfl ?_)
  refine XK.nil (nrm ?_)
  refine QW.seq ?_
  refine QW.region (Nat.zero_le _) (PW.regT (by kernel_rfl) ?_)
  refine XK.st (some 3) rfl rfl (sf_assign (v := .full (([] : (List Row)).map eRow)) rfl rfl ?_)
  refine XK.nil (nrm ?_)
  refine QW.seq ?_
  refine QW.seq ?_
  refine QW.region (Nat.zero_le _) (PW.regT (by kernel_rfl) ?_)
  refine XK.st (some 4) rfl rfl (sf_assign (v := .d (.val (.int .i64 (0)))) rfl rfl ?_)
  refine XK.nil (nrm ?_)
  refine QW.block ?_
  refine QW.loop (fun k σ => ∃ v3_2 : (List Row), ∃ v4 : Int, k ≤ k_0 ∧ run (step_ref47_Sort l0) k (.L1 v3_2 v4) = some r ∧ σ = ⟨tab [(0, .d (.slice (l0.map eRow))), (3, .own 0 (v3_2.map eRow)), (4, .d (.val (.int .i64 v4)))], tabH [.spare 34 v3_2.length], 1, []⟩) k_0 (Nat.zero_le _) ⟨⟨tab [(0, .d (.slice (l0.map eRow))), (3, .own 0 (([] : (List Row)).map eRow)), (4, .d (.val (.int .i64 (0))))], tabH [.spare 34 ([] : (List Row)).length], 1, []⟩, View.trans (View.buf 3 34 rfl (Nat.zero_le _)) (View.mk 1 [0] _ _ _ rfl rfl (by decide) (And.intro (Imp.of_eq rfl) (And.intro (Imp.of_eq rfl) (And.intro (Imp.of_eq rfl) trivial))) (And.intro rfl trivial) rfl (Nat.zero_le _) rfl), ([] : (List Row)), 0, Nat.le_refl _, jG h, rfl⟩ ?_
  rintro k_1s _ ⟨v3_2, v4, k_1h, h, rfl⟩
  obtain ⟨k_1, rfl, h9⟩ := run_succ h; replace h := h9; clear h9; rw [step_ref47_Sort] at h
  refine QW.seq ?_
  refine QW.seq ?_
  refine QW.region (Nat.zero_le _) (PW.regT (by kernel_rfl) ?_)
  refine XK.st (some 7) rfl rfl (sf_move (v := .d (.val (.int .i64 v4))) rfl rfl ?_)
  refine XK.st (some 8) rfl rfl (sf_move (v := .d (.slice (l0.map eRow))) rfl rfl ?_)
  refine XK.st (some 9) rfl rfl (sf_lenL (en := eRow) (l := l0) rfl TT.under_22 rfl ?_)
  refine XK.st (some 10) rfl rfl (sf_lss (a := v4) (b := (l0.length : Int)) rfl rfl rfl ?_)
  refine XK.nil (nrm ?_)
  refine QW.cond (t := (decide (v4 < (l0.length : Int)))) rfl (Nat.zero_le _) (fun hb_2 => ?_) (fun hb_2 => ?_)
  · replace h := bGT h hb_2
    refine QW.skip (Nat.zero_le _) (nrm ?_)
    refine QW.seqI (fun s' => ∃ v3_8 : (List Row), ∃ v4_7 : Int, ∃ k : Nat, k ≤ k_1 ∧ run (step_ref47_Sort l0) k (.J2 v3_8 v4_7) = some r ∧ s' = ⟨tab [(0, .d (.slice (l0.map eRow))), (3, .own 0 (v3_8.map eRow)), (4, .d (.val (.int .i64 v4_7)))], tabH [.spare 34 v3_8.length], 1, []⟩) ?_ ?_
    · refine QW.block ?_
      refine QW.seq ?_
      refine QW.region (Nat.zero_le _) (PW.regT (by kernel_rfl) ?_)
      refine XK.st (some 5) rfl rfl (sf_assign (v := .d (.val (.int .i64 (0)))) rfl rfl ?_)
      refine XK.nil (nrm ?_)
      refine QW.seq ?_
      refine QW.block ?_
      refine QW.loop (fun k σ => ∃ v3_10 : (List Row), ∃ v4_9 : Int, ∃ v5_4 : Int, k ≤ k_1 ∧ run (step_ref47_Sort l0) k (.L3 v3_10 v4_9 v5_4) = some r ∧ σ = ⟨tab [(0, .d (.slice (l0.map eRow))), (3, .own 0 (v3_10.map eRow)), (4, .d (.val (.int .i64 v4_9))), (5, .d (.val (.int .i64 v5_4)))], tabH [.spare 34 v3_10.length], 1, []⟩) k_1 (Nat.zero_le _) ⟨⟨tab [(0, .d (.slice (l0.map eRow))), (3, .own 0 (v3_2.map eRow)), (4, .d (.val (.int .i64 v4))), (5, .d (.val (.int .i64 (0))))], tabH [.spare 34 v3_2.length], 1, []⟩, View.mk 1 [0] _ _ _ rfl rfl (by decide) (And.intro (Imp.of_eq rfl) (And.intro (Imp.of_eq rfl) (And.intro (Imp.of_eq rfl) (And.intro (Imp.of_eq rfl) trivial)))) (And.intro rfl trivial) rfl (Nat.zero_le _) rfl, v3_2, v4, 0, Nat.le_refl _, jG h, rfl⟩ ?_
      rintro k_3s _ ⟨v3_10, v4_9, v5_4, k_3h, h, rfl⟩
      obtain ⟨k_3, rfl, h9⟩ := run_succ h; replace h := h9; clear h9; rw [step_ref47_Sort] at h
      refine QW.seq ?_
      refine QW.seq ?_
      refine QW.region (Nat.zero_le _) (PW.regQ (id := 6) mixedX (M := _) rfl (by kernel_rfl) ?_)
      refine RQ.st (some 13) rfl rfl (sf_move (v := .d (.val (.int .i64 v5_4))) rfl rfl ⟨⟨rfl, rfl⟩, ?_⟩)
      refine RQ.st (some 14) rfl rfl (sf_move (v := .own 0 (v3_10.map eRow)) rfl rfl ⟨⟨rfl, rfl⟩, ?_⟩)
      refine RQ.st (some 15) rfl rfl (sf_lenL (en := eRow) (l := v3_10) rfl TT.under_22 rfl ⟨⟨rfl, rfl⟩, ?_⟩)
      refine RQ.st (some 16) rfl rfl (sf_lss (a := v5_4) (b := (v3_10.length : Int)) rfl rfl rfl ⟨⟨rfl, rfl⟩, ?_⟩)
      refine RQ.st (some 17) rfl rfl (sf_move (v := .d (.val (.bool (decide (v5_4 < (v3_10.length : Int)))))) rfl rfl ⟨⟨rfl, rfl⟩, ?_⟩)
      refine RQ.gd (v := .own 0 (v3_10.map eRow)) (T := []) (some 18) rfl rfl (by repeat (first | exact trivial | refine And.intro (fun hg => by first | rfl | exact hg | exact (Bool.and_eq_true_iff.mp hg).1 | exact (Bool.and_eq_true_iff.mp (Bool.and_eq_true_iff.mp hg).1).1) ?_)) (fun hg => sf_move (v := .own 0 (v3_10.map eRow)) rfl rfl ⟨⟨rfl, rfl, rfl⟩, rfl, Imp.refl⟩) (fun _ _ hi => nomatch hi) ?_
      refine RQ.gd (v := .d (.val (.int .i64 v5_4))) (T := []) (some 19) rfl rfl (by repeat (first | exact trivial | refine And.intro (fun hg => by first | rfl | exact hg | exact (Bool.and_eq_true_iff.mp hg).1 | exact (Bool.and_eq_true_iff.mp (Bool.and_eq_true_iff.mp hg).1).1) ?_)) (fun hg => sf_move (v := .d (.val (.int .i64 v5_4))) rfl rfl ⟨⟨rfl, rfl, rfl⟩, rfl, Imp.refl⟩) (fun _ _ hi => nomatch hi) ?_
      obtain ⟨c_4, h⟩ := gG h
      refine RQ.gd (v := .d (.cptr (cRow (idx v3_10 v5_4)))) (T := []) (some 20) rfl rfl (by repeat (first | exact trivial | refine And.intro (fun hg => by first | rfl | exact hg | exact (Bool.and_eq_true_iff.mp hg).1 | exact (Bool.and_eq_true_iff.mp (Bool.and_eq_true_iff.mp hg).1).1) ?_)) (fun hg => sf_idxA (l := v3_10) (i := v5_4) rfl TT.slcA_22 lay_Row rfl rfl (c_4 (eqB hg)) ⟨⟨rfl, rfl, rfl⟩, rfl, Imp.refl⟩) (fun _ _ hi => nomatch hi) ?_
      refine RQ.gd (v := .d (.agg (cRow (idx v3_10 v5_4)))) (T := []) (some 21) rfl rfl (by repeat (first | exact trivial | refine And.intro (fun hg => by first | rfl | exact hg | exact (Bool.and_eq_true_iff.mp hg).1 | exact (Bool.and_eq_true_iff.mp (Bool.and_eq_true_iff.mp hg).1).1) ?_)) (fun hg => sf_ldC (d := .agg (cRow (idx v3_10 v5_4))) rfl TT.tyA_37 rfl (⟨by rw [lay_Row.len]; decide, congrArg D.agg (List.take_of_length_le (by rw [lay_Row.len]; decide))⟩) ⟨⟨rfl, rfl, rfl⟩, rfl, Imp.refl⟩) (fun _ _ hi => nomatch hi) ?_
      refine RQ.gd (v := .d (.slice (l0.map eRow))) (T := []) (some 22) rfl rfl (by repeat (first | exact trivial | refine And.intro (fun hg => by first | rfl | exact hg | exact (Bool.and_eq_true_iff.mp hg).1 | exact (Bool.and_eq_true_iff.mp (Bool.and_eq_true_iff.mp hg).1).1) ?_)) (fun hg => sf_move (v := .d (.slice (l0.map eRow))) rfl rfl ⟨⟨rfl, rfl, rfl⟩, rfl, Imp.refl⟩) (fun _ _ hi => nomatch hi) ?_
      refine RQ.gd (v := .d (.val (.int .i64 v4_9))) (T := []) (some 23) rfl rfl (by repeat (first | exact trivial | refine And.intro (fun hg => by first | rfl | exact hg | exact (Bool.and_eq_true_iff.mp hg).1 | exact (Bool.and_eq_true_iff.mp (Bool.and_eq_true_iff.mp hg).1).1) ?_)) (fun hg => sf_move (v := .d (.val (.int .i64 v4_9))) rfl rfl ⟨⟨rfl, rfl, rfl⟩, rfl, Imp.refl⟩) (fun _ _ hi => nomatch hi) ?_
      obtain ⟨c_5, h⟩ := gG h
      refine RQ.gd (v := .d (.cptr (cRow (idx l0 v4_9)))) (T := []) (some 24) rfl rfl (by repeat (first | exact trivial | refine And.intro (fun hg => by first | rfl | exact hg | exact (Bool.and_eq_true_iff.mp hg).1 | exact (Bool.and_eq_true_iff.mp (Bool.and_eq_true_iff.mp hg).1).1) ?_)) (fun hg => sf_idxA (l := l0) (i := v4_9) rfl TT.slcA_22 lay_Row rfl rfl (c_5 (eqB hg)) ⟨⟨rfl, rfl, rfl⟩, rfl, Imp.refl⟩) (fun _ _ hi => nomatch hi) ?_
      refine RQ.gd (v := .d (.agg (cRow (idx l0 v4_9)))) (T := []) (some 25) rfl rfl (by repeat (first | exact trivial | refine And.intro (fun hg => by first | rfl | exact hg | exact (Bool.and_eq_true_iff.mp hg).1 | exact (Bool.and_eq_true_iff.mp (Bool.and_eq_true_iff.mp hg).1).1) ?_)) (fun hg => sf_ldC (d := .agg (cRow (idx l0 v4_9))) rfl TT.tyA_37 rfl (⟨by rw [lay_Row.len]; decide, congrArg D.agg (List.take_of_length_le (by rw [lay_Row.len]; decide))⟩) ⟨⟨rfl, rfl, rfl⟩, rfl, Imp.refl⟩) (fun _ _ hi => nomatch hi) ?_
      obtain ⟨x_6, hx_7, h⟩ := bG h
      refine RQ.gd (v := .d (.val (.bool x_6))) (T := []) (some 26) rfl rfl (by repeat (first | exact trivial | refine And.intro (fun hg => by first | rfl | exact hg | exact (Bool.and_eq_true_iff.mp hg).1 | exact (Bool.and_eq_true_iff.mp (Bool.and_eq_true_iff.mp hg).1).1) ?_)) (fun hg => sf_call rfl rfl TT.enters_28 rfl (sim_ref47_Less (idx v3_10 v5_4) (idx l0 v4_9) _ (bT hx_7 hg)) ⟨⟨rfl, rfl, rfl⟩, rfl, Imp.refl⟩) (fun _ _ hi => nomatch hi) ?_
      refine RQ.st (some 27) rfl rfl (sf_pickA rfl rfl rfl rfl (fun hb => by rw [hb]; rfl) (fun _ => rfl) ⟨⟨rfl, rfl⟩, ?_⟩)
      refine RQ.nil (nrm ?_)
      refine QW.cond (t := ((decide (v5_4 < (v3_10.length : Int))) && x_6)) rfl (Nat.zero_le _) (fun hb_8 => ?_) (fun hb_8 => ?_)
      · replace h := bGT h hb_8
        refine QW.skip (Nat.zero_le _) (nrm ?_)
        refine QW.block ?_
        refine QW.region (Nat.zero_le _) (PW.regT (by kernel_rfl) ?_)
        refine XK.st (some 28) rfl rfl (sf_move (v := .d (.val (.int .i64 v5_4))) rfl rfl ?_)
        obtain ⟨c_9, h⟩ := gG h
        refine XK.st (some 29) rfl rfl (sf_add (a := v5_4) (b := (1 : Int)) rfl rfl rfl c_9 ?_)
        refine XK.st (some 5) rfl rfl (sf_assign (v := .d (.val (.int .i64 (v5_4 + (1 : Int))))) rfl rfl ?_)
        refine XK.nil (blN (nrm ?_))
        exact ⟨k_3, by omega, ⟨tab [(0, .d (.slice (l0.map eRow))), (3, .own 0 (v3_10.map eRow)), (4, .d (.val (.int .i64 v4_9))), (5, .d (.val (.int .i64 (v5_4 + (1 : Int)))))], tabH [.spare 34 v3_10.length], 1, []⟩, View.mk 1 [0] _ _ _ rfl rfl (by decide) (And.intro (Imp.of_eq rfl) (And.intro (Imp.of_eq rfl) (And.intro (Imp.of_eq rfl) (And.intro (Imp.of_eq rfl) trivial)))) (And.intro rfl trivial) rfl (Nat.zero_le _) rfl, v3_10, v4_9, (v5_4 + (1 : Int)), by omega, jG h, rfl⟩
      · replace h := bGF h hb_8
        refine QW.exit (Nat.zero_le _) (thX (thX (exE (nrm ?_))))
        refine QW.seq ?_
        refine QW.seq ?_
        refine QW.region (Nat.zero_le _) (PW.regQ (id := 8) mixedX (M := _) rfl (by kernel_rfl) ?_)
        refine RQ.st (some 30) rfl rfl (sf_move (v := .d (.val (.int .i64 v5_4))) rfl rfl ⟨⟨rfl, rfl⟩, ?_⟩)
        refine RQ.st (some 31) rfl rfl (sf_move (v := .own 0 (v3_10.map eRow)) rfl rfl ⟨⟨rfl, rfl⟩, ?_⟩)
        refine RQ.st (some 32) rfl rfl (sf_lenL (en := eRow) (l := v3_10) rfl TT.under_22 rfl ⟨⟨rfl, rfl⟩, ?_⟩)
        refine RQ.st (some 33) rfl rfl (sf_lss (a := v5_4) (b := (v3_10.length : Int)) rfl rfl rfl ⟨⟨rfl, rfl⟩, ?_⟩)
        refine RQ.st (some 34) rfl rfl (sf_move (v := .d (.val (.bool (decide (v5_4 < (v3_10.length : Int)))))) rfl rfl ⟨⟨rfl, rfl⟩, ?_⟩)
        refine RQ.gd (v := .own 0 (v3_10.map eRow)) (T := []) (some 35) rfl rfl (by repeat (first | exact trivial | refine And.intro (fun hg => by first | rfl | exact hg | exact (Bool.and_eq_true_iff.mp hg).1 | exact (Bool.and_eq_true_iff.mp (Bool.and_eq_true_iff.mp hg).1).1) ?_)) (fun hg => sf_move (v := .own 0 (v3_10.map eRow)) rfl rfl ⟨⟨rfl, rfl, rfl⟩, rfl, Imp.refl⟩) (fun _ _ hi => nomatch hi) ?_
        refine RQ.gd (v := .d (.val (.int .i64 v5_4))) (T := []) (some 36) rfl rfl (by repeat (first | exact trivial | refine And.intro (fun hg => by first | rfl | exact hg | exact (Bool.and_eq_true_iff.mp hg).1 | exact (Bool.and_eq_true_iff.mp (Bool.and_eq_true_iff.mp hg).1).1) ?_)) (fun hg => sf_move (v := .d (.val (.int .i64 v5_4))) rfl rfl ⟨⟨rfl, rfl, rfl⟩, rfl, Imp.refl⟩) (fun _ _ hi => nomatch hi) ?_
        obtain ⟨c_10, h⟩ := gG h
        refine RQ.gd (v := .d (.cptr (cRow (idx v3_10 v5_4)))) (T := []) (some 37) rfl rfl (by repeat (first | exact trivial | refine And.intro (fun hg => by first | rfl | exact hg | exact (Bool.and_eq_true_iff.mp hg).1 | exact (Bool.and_eq_true_iff.mp (Bool.and_eq_true_iff.mp hg).1).1) ?_)) (fun hg => sf_idxA (l := v3_10) (i := v5_4) rfl TT.slcA_22 lay_Row rfl rfl (c_10 (eqB hg)) ⟨⟨rfl, rfl, rfl⟩, rfl, Imp.refl⟩) (fun _ _ hi => nomatch hi) ?_
        refine RQ.gd (v := .d (.cptr ((cRow (idx v3_10 v5_4)).drop 0))) (T := []) (some 38) rfl rfl (by repeat (first | exact trivial | refine And.intro (fun hg => by first | rfl | exact hg | exact (Bool.and_eq_true_iff.mp hg).1 | exact (Bool.and_eq_true_iff.mp (Bool.and_eq_true_iff.mp hg).1).1) ?_)) (fun hg => sf_fldC rfl TT.fldA_37_0 (by decide) rfl ⟨⟨rfl, rfl, rfl⟩, rfl, Imp.refl⟩) (fun _ _ hi => nomatch hi) ?_
        refine RQ.gd (v := .d (.agg (((idx v3_10 v5_4).fSum).1.map byteD))) (T := []) (some 39) rfl rfl (by repeat (first | exact trivial | refine And.intro (fun hg => by first | rfl | exact hg | exact (Bool.and_eq_true_iff.mp hg).1 | exact (Bool.and_eq_true_iff.mp (Bool.and_eq_true_iff.mp hg).1).1) ?_)) (fun hg => sf_ldC (d := .agg (((idx v3_10 v5_4).fSum).1.map byteD)) rfl TT.tyA_35 rfl (ldc_Row_0 _) ⟨⟨rfl, rfl, rfl⟩, rfl, Imp.refl⟩) (fun _ _ hi => nomatch hi) ?_
        refine RQ.gd (v := .d (.slice (l0.map eRow))) (T := []) (some 40) rfl rfl (by repeat (first | exact trivial | refine And.intro (fun hg => by first | rfl | exact hg | exact (Bool.and_eq_true_iff.mp hg).1 | exact (Bool.and_eq_true_iff.mp (Bool.and_eq_true_iff.mp hg).1).1) ?_)) (fun hg => sf_move (v := .d (.slice (l0.map eRow))) rfl rfl ⟨⟨rfl, rfl, rfl⟩, rfl, Imp.refl⟩) (fun _ _ hi => nomatch hi) ?_
        refine RQ.gd (v := .d (.val (.int .i64 v4_9))) (T := []) (some 41) rfl rfl (by repeat (first | exact trivial | refine And.intro (fun hg => by first | rfl | exact hg | exact (Bool.and_eq_true_iff.mp hg).1 | exact (Bool.and_eq_true_iff.mp (Bool.and_eq_true_iff.mp hg).1).1) ?_)) (fun hg => sf_move (v := .d (.val (.int .i64 v4_9))) rfl rfl ⟨⟨rfl, rfl, rfl⟩, rfl, Imp.refl⟩) (fun _ _ hi => nomatch hi) ?_
        obtain ⟨c_11, h⟩ := gG h
        refine RQ.gd (v := .d (.cptr (cRow (idx l0 v4_9)))) (T := []) (some 42) rfl rfl (by repeat (first | exact trivial | refine And.intro (fun hg => by first | rfl | exact hg | exact (Bool.and_eq_true_iff.mp hg).1 | exact (Bool.and_eq_true_iff.mp (Bool.and_eq_true_iff.mp hg).1).1) ?_)) (fun hg => sf_idxA (l := l0) (i := v4_9) rfl TT.slcA_22 lay_Row rfl rfl (c_11 (eqB hg)) ⟨⟨rfl, rfl, rfl⟩, rfl, Imp.refl⟩) (fun _ _ hi => nomatch hi) ?_
        refine RQ.gd (v := .d (.cptr ((cRow (idx l0 v4_9)).drop 0))) (T := []) (some 43) rfl rfl (by repeat (first | exact trivial | refine And.intro (fun hg => by first | rfl | exact hg | exact (Bool.and_eq_true_iff.mp hg).1 | exact (Bool.and_eq_true_iff.mp (Bool.and_eq_true_iff.mp hg).1).1) ?_)) (fun hg => sf_fldC rfl TT.fldA_37_0 (by decide) rfl ⟨⟨rfl, rfl, rfl⟩, rfl, Imp.refl⟩) (fun _ _ hi => nomatch hi) ?_
        refine RQ.gd (v := .d (.agg (((idx l0 v4_9).fSum).1.map byteD))) (T := []) (some 44) rfl rfl (by repeat (first | exact trivial | refine And.intro (fun hg => by first | rfl | exact hg | exact (Bool.and_eq_true_iff.mp hg).1 | exact (Bool.and_eq_true_iff.mp (Bool.and_eq_true_iff.mp hg).1).1) ?_)) (fun hg => sf_ldC (d := .agg (((idx l0 v4_9).fSum).1.map byteD)) rfl TT.tyA_35 rfl (ldc_Row_0 _) ⟨⟨rfl, rfl, rfl⟩, rfl, Imp.refl⟩) (fun _ _ hi => nomatch hi) ?_
        refine RQ.gd (v := .d (.val (.bool (((idx v3_10 v5_4).fSum).1 == ((idx l0 v4_9).fSum).1)))) (T := []) (some 45) rfl rfl (by repeat (first | exact trivial | refine And.intro (fun hg => by first | rfl | exact hg | exact (Bool.and_eq_true_iff.mp hg).1 | exact (Bool.and_eq_true_iff.mp (Bool.and_eq_true_iff.mp hg).1).1) ?_)) (fun hg => sf_arreq (p := (idx v3_10 v5_4).fSum) (q := (idx l0 v4_9).fSum) rfl TT.arrB_35_32 rfl rfl ⟨⟨rfl, rfl, rfl⟩, rfl, Imp.refl⟩) (fun _ _ hi => nomatch hi) ?_
        refine RQ.st (some 46) rfl rfl (sf_pickA rfl rfl rfl rfl (fun hb => by rw [hb]; rfl) (fun _ => rfl) ⟨⟨rfl, rfl⟩, ?_⟩)
        refine RQ.st (some 47) rfl rfl (sf_move (v := .d (.val (.bool ((decide (v5_4 < (v3_10.length : Int))) && (((idx v3_10 v5_4).fSum).1 == ((idx l0 v4_9).fSum).1))))) rfl rfl ⟨⟨rfl, rfl⟩, ?_⟩)
        refine RQ.gd (v := .own 0 (v3_10.map eRow)) (T := []) (some 48) rfl rfl (by repeat (first | exact trivial | refine And.intro (fun hg => by first | rfl | exact hg | exact (Bool.and_eq_true_iff.mp hg).1 | exact (Bool.and_eq_true_iff.mp (Bool.and_eq_true_iff.mp hg).1).1) ?_)) (fun hg => sf_move (v := .own 0 (v3_10.map eRow)) rfl rfl ⟨⟨rfl, rfl, rfl⟩, rfl, Imp.refl⟩) (fun _ _ hi => nomatch hi) ?_
        refine RQ.gd (v := .d (.val (.int .i64 v5_4))) (T := []) (some 49) rfl rfl (by repeat (first | exact trivial | refine And.intro (fun hg => by first | rfl | exact hg | exact (Bool.and_eq_true_iff.mp hg).1 | exact (Bool.and_eq_true_iff.mp (Bool.and_eq_true_iff.mp hg).1).1) ?_)) (fun hg => sf_move (v := .d (.val (.int .i64 v5_4))) rfl rfl ⟨⟨rfl, rfl, rfl⟩, rfl, Imp.refl⟩) (fun _ _ hi => nomatch hi) ?_
        obtain ⟨c_12, h⟩ := gG h
        refine RQ.gd (v := .d (.cptr (cRow (idx v3_10 v5_4)))) (T := []) (some 50) rfl rfl (by repeat (first | exact trivial | refine And.intro (fun hg => by first | rfl | exact hg | exact (Bool.and_eq_true_iff.mp hg).1 | exact (Bool.and_eq_true_iff.mp (Bool.and_eq_true_iff.mp hg).1).1) ?_)) (fun hg => sf_idxA (l := v3_10) (i := v5_4) rfl TT.slcA_22 lay_Row rfl rfl (c_12 hg) ⟨⟨rfl, rfl, rfl⟩, rfl, Imp.refl⟩) (fun _ _ hi => nomatch hi) ?_
        refine RQ.gd (v := .d (.cptr ((cRow (idx v3_10 v5_4)).drop 32))) (T := []) (some 51) rfl rfl (by repeat (first | exact trivial | refine And.intro (fun hg => by first | rfl | exact hg | exact (Bool.and_eq_true_iff.mp hg).1 | exact (Bool.and_eq_true_iff.mp (Bool.and_eq_true_iff.mp hg).1).1) ?_)) (fun hg => sf_fldC rfl TT.fldA_37_1 (by decide) rfl ⟨⟨rfl, rfl, rfl⟩, rfl, Imp.refl⟩) (fun _ _ hi => nomatch hi) ?_
        refine RQ.gd (v := .d (.val (.int .i64 ((idx v3_10 v5_4).fEpoch)))) (T := []) (some 52) rfl rfl (by repeat (first | exact trivial | refine And.intro (fun hg => by first | rfl | exact hg | exact (Bool.and_eq_true_iff.mp hg).1 | exact (Bool.and_eq_true_iff.mp (Bool.and_eq_true_iff.mp hg).1).1) ?_)) (fun hg => sf_ldC (d := .val (.int .i64 ((idx v3_10 v5_4).fEpoch))) rfl TT.tyA_3 rfl (ldc_Row_1 _) ⟨⟨rfl, rfl, rfl⟩, rfl, Imp.refl⟩) (fun _ _ hi => nomatch hi) ?_
        refine RQ.gd (v := .d (.slice (l0.map eRow))) (T := []) (some 53) rfl rfl (by repeat (first | exact trivial | refine And.intro (fun hg => by first | rfl | exact hg | exact (Bool.and_eq_true_iff.mp hg).1 | exact (Bool.and_eq_true_iff.mp (Bool.and_eq_true_iff.mp hg).1).1) ?_)) (fun hg => sf_move (v := .d (.slice (l0.map eRow))) rfl rfl ⟨⟨rfl, rfl, rfl⟩, rfl, Imp.refl⟩) (fun _ _ hi => nomatch hi) ?_
        refine RQ.gd (v := .d (.val (.int .i64 v4_9))) (T := []) (some 54) rfl rfl (by repeat (first | exact trivial | refine And.intro (fun hg => by first | rfl | exact hg | exact (Bool.and_eq_true_iff.mp hg).1 | exact (Bool.and_eq_true_iff.mp (Bool.and_eq_true_iff.mp hg).1).1) ?_)) (fun hg => sf_move (v := .d (.val (.int .i64 v4_9))) rfl rfl ⟨⟨rfl, rfl, rfl⟩, rfl, Imp.refl⟩) (fun _ _ hi => nomatch hi) ?_
        obtain ⟨c_13, h⟩ := gG h
        refine RQ.gd (v := .d (.cptr (cRow (idx l0 v4_9)))) (T := []) (some 55) rfl rfl (by repeat (first | exact trivial | refine And.intro (fun hg => by first | rfl | exact hg | exact (Bool.and_eq_true_iff.mp hg).1 | exact (Bool.and_eq_true_iff.mp (Bool.and_eq_true_iff.mp hg).1).1) ?_)) (fun hg => sf_idxA (l := l0) (i := v4_9) rfl TT.slcA_22 lay_Row rfl rfl (c_13 hg) ⟨⟨rfl, rfl, rfl⟩, rfl, Imp.refl⟩) (fun _ _ hi => nomatch hi) ?_
        refine RQ.gd (v := .d (.cptr ((cRow (idx l0 v4_9)).drop 32))) (T := []) (some 56) rfl rfl (by repeat (first | exact trivial | refine And.intro (fun hg => by first | rfl | exact hg | exact (Bool.and_eq_true_iff.mp hg).1 | exact (Bool.and_eq_true_iff.mp (Bool.and_eq_true_iff.mp hg).1).1) ?_)) (fun hg => sf_fldC rfl TT.fldA_37_1 (by decide) rfl ⟨⟨rfl, rfl, rfl⟩, rfl, Imp.refl⟩) (fun _ _ hi => nomatch hi) ?_
        refine RQ.gd (v := .d (.val (.int .i64 ((idx l0 v4_9).fEpoch)))) (T := []) (some 57) rfl rfl (by repeat (first | exact trivial | refine And.intro (fun hg => by first | rfl | exact hg | exact (Bool.and_eq_true_iff.mp hg).1 | exact (Bool.and_eq_true_iff.mp (Bool.and_eq_true_iff.mp hg).1).1) ?_)) (fun hg => sf_ldC (d := .val (.int .i64 ((idx l0 v4_9).fEpoch))) rfl TT.tyA_3 rfl (ldc_Row_1 _) ⟨⟨rfl, rfl, rfl⟩, rfl, Imp.refl⟩) (fun _ _ hi => nomatch hi) ?_
        refine RQ.gd (v := .d (.val (.bool (decide (((idx v3_10 v5_4).fEpoch) = ((idx l0 v4_9).fEpoch)))))) (T := []) (some 58) rfl rfl (by repeat (first | exact trivial | refine And.intro (fun hg => by first | rfl | exact hg | exact (Bool.and_eq_true_iff.mp hg).1 | exact (Bool.and_eq_true_iff.mp (Bool.and_eq_true_iff.mp hg).1).1) ?_)) (fun hg => sf_eq (a := ((idx v3_10 v5_4).fEpoch)) (b := ((idx l0 v4_9).fEpoch)) rfl rfl rfl ⟨⟨rfl, rfl, rfl⟩, rfl, Imp.refl⟩) (fun _ _ hi => nomatch hi) ?_
        refine RQ.st (some 59) rfl rfl (sf_pickA rfl rfl rfl rfl (fun hb => by rw [hb]; rfl) (fun _ => rfl) ⟨⟨rfl, rfl⟩, ?_⟩)
        refine RQ.nil (nrm ?_)
        refine QW.cond (t := (((decide (v5_4 < (v3_10.length : Int))) && (((idx v3_10 v5_4).fSum).1 == ((idx l0 v4_9).fSum).1)) && (decide (((idx v3_10 v5_4).fEpoch) = ((idx l0 v4_9).fEpoch))))) rfl (Nat.zero_le _) (fun hb_14 => ?_) (fun hb_14 => ?_)
        · replace h := bGT h hb_14
          refine QW.exit (Nat.zero_le _) (thX (exE (nrm ?_)))
          exact ⟨⟨tab [(0, .d (.slice (l0.map eRow))), (3, .own 0 (v3_10.map eRow)), (4, .d (.val (.int .i64 v4_9)))], tabH [.spare 34 v3_10.length], 1, []⟩, View.mk 1 [0] _ _ _ rfl rfl (by decide) (And.intro (Imp.of_eq rfl) (And.intro (Imp.of_eq rfl) (And.intro (Imp.of_eq rfl) trivial))) (And.intro rfl trivial) rfl (Nat.zero_le _) rfl, v3_10, v4_9, k_3, by omega, jG h, rfl⟩
        · replace h := bGF h hb_14
          refine QW.skip (Nat.zero_le _) (nrm ?_)
          refine QW.seq ?_
          refine QW.region (Nat.zero_le _) (PW.regT (by kernel_rfl) ?_)
          refine XK.st (some 60) rfl rfl (sf_row (en := eRow) (l := ([] : List Row)) rfl TT.rowA_22 lay_Row (by first | rfl | (simp only [List.map_cons, List.map_nil, eRow_eq]; rfl)) rfl (by decide) (by simp [solids, partsP, evP, ofVal, PV.solid, putS_at, tab, unS, unT, unC, asCond, Value.oneCell']) ?_)
          refine XK.st (some 61) rfl rfl (sf_move (v := .own 0 (v3_10.map eRow)) rfl rfl ?_)
          refine XK.st (some 62) rfl rfl (sf_move (v := .d (.val (.int .i64 v5_4))) rfl rfl ?_)
          obtain ⟨c_15, h⟩ := gG h
          refine XK.st (some 63) rfl rfl (sf_subL (l := v3_10) (a := (0 : Int)) (b := v5_4) rfl TT.under_22 TT.slcA_22 lay_Row rfl rfl rfl c_15 ?_)
          obtain ⟨c_16, h⟩ := gG h
          refine XK.st (some 64) rfl rfl (sf_appF (en := eRow) (l := ([] : List Row)) (l2 := (sub v3_10 (0 : Int) v5_4)) rfl TT.rowA_22 TT.under_22 rfl lay_Row rfl rfl ⟨c_16, fun _ => rfl⟩ (by decide) ?_)
          refine XK.st (some 6) rfl rfl (sf_assign (v := .own 1 ((([] : List Row) ++ (sub v3_10 (0 : Int) v5_4)).map eRow)) rfl rfl ?_)
          refine XK.nil (nrm ?_)
          refine QW.seq ?_
          refine QW.region (Nat.zero_le _) (PW.regT (by kernel_rfl) ?_)
          refine XK.st (some 65) rfl rfl (sf_move (v := .own 1 ((([] : List Row) ++ (sub v3_10 (0 : Int) v5_4)).map eRow)) rfl rfl ?_)
          refine XK.st (some 66) rfl rfl (sf_move (v := .d (.slice (l0.map eRow))) rfl rfl ?_)
          refine XK.st (some 67) rfl rfl (sf_move (v := .d (.val (.int .i64 v4_9))) rfl rfl ?_)
          obtain ⟨c_17, h⟩ := gG h
          refine XK.st (some 68) rfl rfl (sf_idxA (l := l0) (i := v4_9) rfl TT.slcA_22 lay_Row rfl rfl c_17 ?_)
          refine XK.st (some 69) rfl rfl (sf_ldC (d := .agg (cRow (idx l0 v4_9))) rfl TT.tyA_37 rfl (⟨by rw [lay_Row.len]; decide, congrArg D.agg (List.take_of_length_le (by rw [lay_Row.len]; decide))⟩) ?_)
          refine XK.st (some 70) rfl rfl (sf_row (en := eRow) (l := ([(idx l0 v4_9)] : List Row)) rfl TT.rowA_22 lay_Row (by first | rfl | (simp only [List.map_cons, List.map_nil, eRow_eq]; rfl)) rfl (by decide) (by simp [solids, partsP, evP, ofVal, PV.solid, putS_at, tab, unS, unT, unC, asCond, Value.oneCell']) ?_)
          obtain ⟨c_18, h⟩ := gG h
          refine XK.st (some 71) rfl rfl (sf_appO (en := eRow) (l := (([] : List Row) ++ (sub v3_10 (0 : Int) v5_4))) (l2 := ([(idx l0 v4_9)] : List Row)) rfl TT.rowA_22 TT.under_22 rfl lay_Row rfl rfl rfl c_18 (by decide) ?_)
          refine XK.st (some 6) rfl rfl (sf_assign (v := .own 2 (((([] : List Row) ++ (sub v3_10 (0 : Int) v5_4)) ++ ([(idx l0 v4_9)] : List Row)).map eRow)) rfl rfl ?_)
          refine XK.nil (nrm ?_)
          refine QW.region (Nat.zero_le _) (PW.regT (by kernel_rfl) ?_)
          refine XK.st (some 72) rfl rfl (sf_move (v := .own 2 (((([] : List Row) ++ (sub v3_10 (0 : Int) v5_4)) ++ ([(idx l0 v4_9)] : List Row)).map eRow)) rfl rfl ?_)
          refine XK.st (some 73) rfl rfl (sf_move (v := .own 0 (v3_10.map eRow)) rfl rfl ?_)
          refine XK.st (some 74) rfl rfl (sf_move (v := .d (.val (.int .i64 v5_4))) rfl rfl ?_)
          obtain ⟨c_19, h⟩ := gG h
          refine XK.st (some 75) rfl rfl (sf_subL (l := v3_10) (a := v5_4) (b := (v3_10.length : Int)) rfl TT.under_22 TT.slcA_22 lay_Row rfl rfl rfl c_19 ?_)
          obtain ⟨c_20, h⟩ := gG h
          refine XK.st (some 76) rfl rfl (sf_appO (en := eRow) (l := ((([] : List Row) ++ (sub v3_10 (0 : Int) v5_4)) ++ ([(idx l0 v4_9)] : List Row))) (l2 := (sub v3_10 v5_4 (v3_10.length : Int))) rfl TT.rowA_22 TT.under_22 rfl lay_Row rfl rfl rfl c_20 (by decide) ?_)
          refine XK.st (some 3) rfl rfl (sf_assign (v := .own 3 ((((([] : List Row) ++ (sub v3_10 (0 : Int) v5_4)) ++ ([(idx l0 v4_9)] : List Row)) ++ (sub v3_10 v5_4 (v3_10.length : Int))).map eRow)) rfl rfl ?_)
          refine XK.nil (blN (nrm ?_))
          exact ⟨⟨tab [(0, .d (.slice (l0.map eRow))), (3, .own 0 ((((([] : List Row) ++ (sub v3_10 (0 : Int) v5_4)) ++ ([(idx l0 v4_9)] : List Row)) ++ (sub v3_10 v5_4 (v3_10.length : Int))).map eRow)), (4, .d (.val (.int .i64 v4_9)))], tabH [.spare 34 (((([] : List Row) ++ (sub v3_10 (0 : Int) v5_4)) ++ ([(idx l0 v4_9)] : List Row)) ++ (sub v3_10 v5_4 (v3_10.length : Int))).length], 1, []⟩, View.mk 1 [3] _ _ _ rfl rfl (by decide) (And.intro (Imp.of_eq rfl) (And.intro (Imp.of_eq rfl) (And.intro (Imp.of_eq rfl) trivial))) (And.intro rfl trivial) rfl (Nat.zero_le _) rfl, (((([] : List Row) ++ (sub v3_10 (0 : Int) v5_4)) ++ ([(idx l0 v4_9)] : List Row)) ++ (sub v3_10 v5_4 (v3_10.length : Int))), v4_9, k_3, by omega, jG h, rfl⟩
    · rintro _ ⟨v3_8, v4_7, k_21s, k_21h, h, rfl⟩
      obtain ⟨k_21, rfl, h9⟩ := run_succ h; replace h := h9; clear h9; rw [step_ref47_Sort] at h
      refine QW.region (Nat.zero_le _) (PW.regT (by kernel_rfl) ?_)
      refine XK.st (some 11) rfl rfl (sf_move (v := .d (.val (.int .i64 v4_7))) rfl rfl ?_)
      obtain ⟨c_22, h⟩ := gG h
      refine XK.st (some 12) rfl rfl (sf_add (a := v4_7) (b := (1 : Int)) rfl rfl rfl c_22 ?_)
      refine XK.st (some 4) rfl rfl (sf_assign (v := .d (.val (.int .i64 (v4_7 + (1 : Int))))) rfl rfl ?_)
      refine XK.nil (nrm ?_)
      exact ⟨k_21, by omega, ⟨tab [(0, .d (.slice (l0.map eRow))), (3, .own 0 (v3_8.map eRow)), (4, .d (.val (.int .i64 (v4_7 + (1 : Int)))))], tabH [.spare 34 v3_8.length], 1, []⟩, View.mk 1 [0] _ _ _ rfl rfl (by decide) (And.intro (Imp.of_eq rfl) (And.intro (Imp.of_eq rfl) (And.intro (Imp.of_eq rfl) trivial))) (And.intro rfl trivial) rfl (Nat.zero_le _) rfl, v3_8, (v4_7 + (1 : Int)), by omega, jG h, rfl⟩
  · replace h := bGF h hb_2
    refine QW.exit (Nat.zero_le _) (thX (thX (exE (nrm ?_))))
    refine QW.seq ?_
    refine QW.region (Nat.zero_le _) (PW.regT (by kernel_rfl) ?_)
    refine XK.st (some 77) rfl rfl (sf_move (v := .own 0 (v3_2.map eRow)) rfl rfl ?_)
    refine XK.st (some 2) rfl rfl (sf_assign (v := .own 0 (v3_2.map eRow)) rfl rfl ?_)
    refine XK.nil (nrm ?_)
    refine QW.ret (Nat.zero_le _) ?_
    obtain rfl := sG h
    exact Ends.one (.inr rfl) rfl (ResIs.tmp rfl) rfl rfl

inductive C_ref47_Find where
  | S
  | L1 (v7 : Int)

noncomputable def step_ref47_Find (l0 : (List Row)) (x1 : (Arr 32 UInt8)) (epoch2 : Int) : C_ref47_Find → Option (C_ref47_Find ⊕ Int)
  | .S =>
    some (.inl (.L1 (0)))
  | .L1 v7 =>
    (bif (decide (v7 < (l0.length : Int))) then
    gO (0 ≤ v7 ∧ v7 < (l0.length : Int)) (
    gO ((((idx l0 v7).fSum).1 == x1.1) = true → 0 ≤ v7 ∧ v7 < (l0.length : Int)) (
    (bif ((((idx l0 v7).fSum).1 == x1.1) && (decide (((idx l0 v7).fEpoch) = epoch2))) then
    some (.inr v7)
    else
    gO (inI (v7 + (1 : Int))) (
    some (.inl (.L1 (v7 + (1 : Int))))))))
    else
    some (.inr (-1)))

noncomputable def g_ref47_Find (l0 : (List Row)) (x1 : (Arr 32 UInt8)) (epoch2 : Int) : Option Int := theC (step_ref47_Find l0 x1 epoch2) .S

set_option maxRecDepth 20000 in
set_option maxHeartbeats 4000000 in
theorem sim_ref47_Find (l0 : (List Row)) (x1 : (Arr 32 UInt8)) (epoch2 : Int) (r : Int) (h : g_ref47_Find l0 x1 epoch2 = some r) : Fun Try.prog 27 [.slice (l0.map eRow), .agg (x1.1.map byteD), .val (.int .i64 epoch2)] (.val (.int .i64 r)) := by
  refine Fun.of_bodyQ Try.func27 rfl (by simp [Try.ntmps27]) ?_
  rw [Try.ntmps27, TT.res_27]
  refine QW.view (s' := ⟨tab [(0, .d (.slice (l0.map eRow))), (1, .d (.agg (x1.1.map byteD))), (2, .d (.val (.int .i64 epoch2)))], tabH [], 0, []⟩) (View.init (by rfl)) (Nat.zero_le _) ?_
  replace h := theC_get h
  obtain ⟨_, h⟩ := h
  obtain ⟨k_0, rfl, h9⟩ := run_succ h; replace h := h9; clear h9; rw [step_ref47_Find] at h
  refine QW.seq ?_
  refine QW.region (Nat.zero_le _) (PW.regT (by kernel_rfl) ?_)
  refine XK.fz (some 4) rfl rfl (sf_boxF (ds := x1.1.map byteD) rfl rfl rfl rfl toDs_map ?_)
  refine XK.st (some 6) rfl rfl (sf_assign (v := .d (.val (.int .i64 (0)))) rfl rfl ?_)
  refine XK.nil (nrm ?_)
  refine QW.seq ?_
  refine QW.seq ?_
  refine QW.region (Nat.zero_le _) (PW.regT (by kernel_rfl) ?_)
  refine XK.st (some 7) rfl rfl (sf_assign (v := .d (.val (.int .i64 (0)))) rfl rfl ?_)
  refine XK.nil (nrm ?_)
  refine QW.block ?_
  refine QW.loop (fun k σ => ∃ v7 : Int, k ≤ k_0 ∧ run (step_ref47_Find l0 x1 epoch2) k (.L1 v7) = some r ∧ σ = ⟨tab [(0, .d (.slice (l0.map eRow))), (2, .d (.val (.int .i64 epoch2))), (4, .d (.cptr (x1.1.map byteD))), (7, .d (.val (.int .i64 v7)))], tabH [], 0, []⟩) k_0 (Nat.zero_le _) ⟨⟨tab [(0, .d (.slice (l0.map eRow))), (2, .d (.val (.int .i64 epoch2))), (4, .d (.cptr (x1.1.map byteD))), (7, .d (.val (.int .i64 (0))))], tabH [], 0, []⟩, View.mk 0 [] _ _ _ rfl rfl (by decide) (And.intro (Imp.of_eq rfl) (And.intro (Imp.of_eq rfl) (And.intro (Imp.of_eq rfl) (And.intro (Imp.of_eq rfl) trivial)))) trivial rfl (Nat.zero_le _) rfl, 0, Nat.le_refl _, jG h, rfl⟩ ?_
  rintro k_1s _ ⟨v7, k_1h, h, rfl⟩
  obtain ⟨k_1, rfl, h9⟩ := run_succ h; replace h := h9; clear h9; rw [step_ref47_Find] at h
  refine QW.seq ?_
  refine QW.seq ?_
  refine QW.region (Nat.zero_le _) (PW.regT (by kernel_rfl) ?_)
  refine XK.st (some 8) rfl rfl (sf_move (v := .d (.val (.int .i64 v7))) rfl rfl ?_)
  refine XK.st (some 9) rfl rfl (sf_move (v := .d (.slice (l0.map eRow))) rfl rfl ?_)
  refine XK.st (some 10) rfl rfl (sf_lenL (en := eRow) (l := l0) rfl TT.under_22 rfl ?_)
  refine XK.st (some 11) rfl rfl (sf_lss (a := v7) (b := (l0.length : Int)) rfl rfl rfl ?_)
  refine XK.nil (nrm ?_)
  refine QW.cond (t := (decide (v7 < (l0.length : Int)))) rfl (Nat.zero_le _) (fun hb_2 => ?_) (fun hb_2 => ?_)
  · replace h := bGT h hb_2
    refine QW.skip (Nat.zero_le _) (nrm ?_)
    refine QW.seq ?_
    refine QW.block ?_
    refine QW.seq ?_
    refine QW.region (Nat.zero_le _) (PW.regQ (id := 4) mixedX (M := _) rfl (by kernel_rfl) ?_)
    refine RQ.st (some 14) rfl rfl (sf_move (v := .d (.slice (l0.map eRow))) rfl rfl ⟨⟨rfl, rfl⟩, ?_⟩)
    refine RQ.st (some 15) rfl rfl (sf_move (v := .d (.val (.int .i64 v7))) rfl rfl ⟨⟨rfl, rfl⟩, ?_⟩)
    obtain ⟨c_3, h⟩ := gG h
    refine RQ.st (some 16) rfl rfl (sf_idxA (l := l0) (i := v7) rfl TT.slcA_22 lay_Row rfl rfl c_3 ⟨⟨rfl, rfl⟩, ?_⟩)
    refine RQ.st (some 17) rfl rfl (sf_fldC rfl TT.fldA_37_0 (by decide) rfl ⟨⟨rfl, rfl⟩, ?_⟩)
    refine RQ.st (some 18) rfl rfl (sf_ldC (d := .agg (((idx l0 v7).fSum).1.map byteD)) rfl TT.tyA_35 rfl (ldc_Row_0 _) ⟨⟨rfl, rfl⟩, ?_⟩)
    refine RQ.st (some 19) rfl rfl (sf_ldC (d := .agg (x1.1.map byteD)) rfl TT.tyA_35 rfl (ldc_all (by rw [List.length_map, x1.2])) ⟨⟨rfl, rfl⟩, ?_⟩)
    refine RQ.st (some 20) rfl rfl (sf_arreq (p := (idx l0 v7).fSum) (q := x1) rfl TT.arrB_35_32 rfl rfl ⟨⟨rfl, rfl⟩, ?_⟩)
    refine RQ.st (some 21) rfl rfl (sf_move (v := .d (.val (.bool (((idx l0 v7).fSum).1 == x1.1)))) rfl rfl ⟨⟨rfl, rfl⟩, ?_⟩)
    refine RQ.gd (v := .d (.slice (l0.map eRow))) (T := []) (some 22) rfl rfl (by repeat (first | exact trivial | refine And.intro (fun hg => by first | rfl | exact hg | exact (Bool.and_eq_true_iff.mp hg).1 | exact (Bool.and_eq_true_iff.mp (Bool.and_eq_true_iff.mp hg).1).1) ?_)) (fun hg => sf_move (v := .d (.slice (l0.map eRow))) rfl rfl ⟨⟨rfl, rfl, rfl⟩, rfl, Imp.refl⟩) (fun _ _ hi => nomatch hi) ?_
    refine RQ.gd (v := .d (.val (.int .i64 v7))) (T := []) (some 23) rfl rfl (by repeat (first | exact trivial | refine And.intro (fun hg => by first | rfl | exact hg | exact (Bool.and_eq_true_iff.mp hg).1 | exact (Bool.and_eq_true_iff.mp (Bool.and_eq_true_iff.mp hg).1).1) ?_)) (fun hg => sf_move (v := .d (.val (.int .i64 v7))) rfl rfl ⟨⟨rfl, rfl, rfl⟩, rfl, Imp.refl⟩) (fun _ _ hi => nomatch hi) ?_
    obtain ⟨c_4, h⟩ := gG h
    refine RQ.gd (v := .d (.cptr (cRow (idx l0 v7)))) (T := []) (some 24) rfl rfl (by repeat (first | exact trivial | refine And.intro (fun hg => by first | rfl | exact hg | exact (Bool.and_eq_true_iff.mp hg).1 | exact (Bool.and_eq_true_iff.mp (Bool.and_eq_true_iff.mp hg).1).1) ?_)) (fun hg => sf_idxA (l := l0) (i := v7) rfl TT.slcA_22 lay_Row rfl rfl (c_4 (eqB hg)) ⟨⟨rfl, rfl, rfl⟩, rfl, Imp.refl⟩) (fun _ _ hi => nomatch hi) ?_
    refine RQ.gd (v := .d (.cptr ((cRow (idx l0 v7)).drop 32))) (T := []) (some 25) rfl rfl (by repeat (first | exact trivial | refine And.intro (fun hg => by first | rfl | exact hg | exact (Bool.and_eq_true_iff.mp hg).1 | exact (Bool.and_eq_true_iff.mp (Bool.and_eq_true_iff.mp hg).1).1) ?_)) (fun hg => sf_fldC rfl TT.fldA_37_1 (by decide) rfl ⟨⟨rfl, rfl, rfl⟩, rfl, Imp.refl⟩) (fun _ _ hi => nomatch hi) ?_
    refine RQ.gd (v := .d (.val (.int .i64 ((idx l0 v7).fEpoch)))) (T := []) (some 26) rfl rfl (by repeat (first | exact trivial | refine And.intro (fun hg => by first | rfl | exact hg | exact (Bool.and_eq_true_iff.mp hg).1 | exact (Bool.and_eq_true_iff.mp (Bool.and_eq_true_iff.mp hg).1).1) ?_)) (fun hg => sf_ldC (d := .val (.int .i64 ((idx l0 v7).fEpoch))) rfl TT.tyA_3 rfl (ldc_Row_1 _) ⟨⟨rfl, rfl, rfl⟩, rfl, Imp.refl⟩) (fun _ _ hi => nomatch hi) ?_
    refine RQ.gd (v := .d (.val (.int .i64 epoch2))) (T := []) (some 27) rfl rfl (by repeat (first | exact trivial | refine And.intro (fun hg => by first | rfl | exact hg | exact (Bool.and_eq_true_iff.mp hg).1 | exact (Bool.and_eq_true_iff.mp (Bool.and_eq_true_iff.mp hg).1).1) ?_)) (fun hg => sf_move (v := .d (.val (.int .i64 epoch2))) rfl rfl ⟨⟨rfl, rfl, rfl⟩, rfl, Imp.refl⟩) (fun _ _ hi => nomatch hi) ?_
    refine RQ.gd (v := .d (.val (.bool (decide (((idx l0 v7).fEpoch) = epoch2))))) (T := []) (some 28) rfl rfl (by repeat (first | exact trivial | refine And.intro (fun hg => by first | rfl | exact hg | exact (Bool.and_eq_true_iff.mp hg).1 | exact (Bool.and_eq_true_iff.mp (Bool.and_eq_true_iff.mp hg).1).1) ?_)) (fun hg => sf_eq (a := ((idx l0 v7).fEpoch)) (b := epoch2) rfl rfl rfl ⟨⟨rfl, rfl, rfl⟩, rfl, Imp.refl⟩) (fun _ _ hi => nomatch hi) ?_
    refine RQ.st (some 29) rfl rfl (sf_pickA rfl rfl rfl rfl (fun hb => by rw [hb]; rfl) (fun _ => rfl) ⟨⟨rfl, rfl⟩, ?_⟩)
    refine RQ.nil (nrm ?_)
    refine QW.cond (t := ((((idx l0 v7).fSum).1 == x1.1) && (decide (((idx l0 v7).fEpoch) = epoch2)))) rfl (Nat.zero_le _) (fun hb_5 => ?_) (fun hb_5 => ?_)
    · replace h := bGT h hb_5
      refine QW.seq ?_
      refine QW.region (Nat.zero_le _) (PW.regT (by kernel_rfl) ?_)
      refine XK.st (some 30) rfl rfl (sf_move (v := .d (.val (.int .i64 v7))) rfl rfl ?_)
      refine XK.st (some 6) rfl rfl (sf_assign (v := .d (.val (.int .i64 v7))) rfl rfl ?_)
      refine XK.nil (nrm ?_)
      refine QW.ret (Nat.zero_le _) (blR (thR (thR (blR (thR ?_)))))
      obtain rfl := sG h
      exact Ends.one (.inr rfl) rfl (ResIs.tmp rfl) rfl rfl
    · replace h := bGF h hb_5
      refine QW.skip (Nat.zero_le _) (blN (nrm ?_))
      refine QW.region (Nat.zero_le _) (PW.regT (by kernel_rfl) ?_)
      refine XK.st (some 12) rfl rfl (sf_move (v := .d (.val (.int .i64 v7))) rfl rfl ?_)
      obtain ⟨c_6, h⟩ := gG h
      refine XK.st (some 13) rfl rfl (sf_add (a := v7) (b := (1 : Int)) rfl rfl rfl c_6 ?_)
      refine XK.st (some 7) rfl rfl (sf_assign (v := .d (.val (.int .i64 (v7 + (1 : Int))))) rfl rfl ?_)
      refine XK.nil (nrm ?_)
      exact ⟨k_1, by omega, ⟨tab [(0, .d (.slice (l0.map eRow))), (2, .d (.val (.int .i64 epoch2))), (4, .d (.cptr (x1.1.map byteD))), (7, .d (.val (.int .i64 (v7 + (1 : Int)))))], tabH [], 0, []⟩, View.mk 0 [] _ _ _ rfl rfl (by decide) (And.intro (Imp.of_eq rfl) (And.intro (Imp.of_eq rfl) (And.intro (Imp.of_eq rfl) (And.intro (Imp.of_eq rfl) trivial)))) trivial rfl (Nat.zero_le _) rfl, (v7 + (1 : Int)), by omega, jG h, rfl⟩
  · replace h := bGF h hb_2
    refine QW.exit (Nat.zero_le _) (thX (thX (exE (nrm ?_))))
    refine QW.seq ?_
    refine QW.region (Nat.zero_le _) (PW.regT (by kernel_rfl) ?_)
    refine XK.st (some 6) rfl rfl (sf_assign (v := .d (.val (.int .i64 (-1)))) rfl rfl ?_)
    refine XK.nil (nrm ?_)
    refine QW.ret (Nat.zero_le _) ?_
    obtain rfl := sG h
    exact Ends.one (.inr rfl) rfl (ResIs.tmp rfl) rfl rfl

end Go.Proofs.Ytoeppofkmcdknaa.K
