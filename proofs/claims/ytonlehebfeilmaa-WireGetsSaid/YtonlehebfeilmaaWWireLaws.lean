/- The laws of layer 15: what they reckon. -/
import Derived.Test.YtonlehebfeilmaaWR15
import Derived.KernelRfl
namespace Go.Proofs.Ytonlehebfeilmaa.K
open Go Go.RowKit
set_option linter.unusedSimpArgs false
set_option linter.unusedVariables false
namespace TT
theorem bldA_96 : bldA Try.prog 96 = some ([Value.int IntKind.i64 0, Value.slice none 0 0], .inl [(0, 1), (1, 1)]) := by kernel_rfl
theorem enters_30 : entersB Try.prog 30 = true := by kernel_rfl
theorem enters_70 : entersB Try.prog 70 = true := by kernel_rfl
theorem enters_71 : entersB Try.prog 71 = true := by kernel_rfl
theorem enters_73 : entersB Try.prog 73 = true := by kernel_rfl
theorem enters_74 : entersB Try.prog 74 = true := by kernel_rfl
theorem enters_76 : entersB Try.prog 76 = true := by kernel_rfl
theorem enters_77 : entersB Try.prog 77 = true := by kernel_rfl
theorem enters_78 : entersB Try.prog 78 = true := by kernel_rfl
theorem enters_80 : entersB Try.prog 80 = true := by kernel_rfl
theorem res_12 : Try.f12.results.toList = [.tmp 4] := rfl
theorem res_13 : Try.f13.results.toList = [.tmp 2] := rfl
theorem res_70 : Try.f70.results.toList = [.tmp 2] := rfl
theorem res_71 : Try.f71.results.toList = [.tmp 0] := rfl
end TT
inductive C_law15_Light where
  | S
  | L1 (v3 : Int) (v4 : Int)
  | L2 (v3_5 : Int) (v4_5 : Int) (v5_3 : Int)

noncomputable def step_law15_Light (w0 : Witness) : C_law15_Light → Option (C_law15_Light ⊕ Bool)
  | .S =>
    (bif (decide ((70 : Int) < ((w0.fLinks).length : Int))) then
    some (.inr false)
    else
    some (.inl (.L1 (0) (0))))
  | .L1 v3 v4 =>
    (bif (decide (v4 < ((w0.fLinks).length : Int))) then
    gO (0 ≤ v4 ∧ v4 < ((w0.fLinks).length : Int)) (
    (bif (decide ((80 : Int) < (((idx (w0.fLinks) v4).fProof).length : Int))) then
    some (.inr false)
    else
    gO (0 ≤ v4 ∧ v4 < ((w0.fLinks).length : Int)) (
    gO (inI (v3 + (((idx (w0.fLinks) v4).fProof).length : Int))) (
    some (.inl (.L2 (v3 + (((idx (w0.fLinks) v4).fProof).length : Int)) v4 (0)))))))
    else
    some (.inr (decide (v3 ≤ (300 : Int)))))
  | .L2 v3_5 v4_5 v5_3 =>
    gO (0 ≤ v4_5 ∧ v4_5 < ((w0.fLinks).length : Int)) (
    (bif (decide (v5_3 < (((idx (w0.fLinks) v4_5).fProof).length : Int))) then
    gO (0 ≤ v4_5 ∧ v4_5 < ((w0.fLinks).length : Int)) (
    gO (0 ≤ v5_3 ∧ v5_3 < (((idx (w0.fLinks) v4_5).fProof).length : Int)) (
    (bif (decide ((700 : Int) < ((idx ((idx (w0.fLinks) v4_5).fProof) v5_3).length : Int))) then
    some (.inr false)
    else
    gO (inI (v5_3 + (1 : Int))) (
    some (.inl (.L2 v3_5 v4_5 (v5_3 + (1 : Int))))))))
    else
    gO (inI (v4_5 + (1 : Int))) (
    some (.inl (.L1 v3_5 (v4_5 + (1 : Int)))))))

noncomputable def g_law15_Light (w0 : Witness) : Option Bool := theC (step_law15_Light w0) .S

set_option maxRecDepth 20000 in
set_option maxHeartbeats 4000000 in
theorem sim_law15_Light (w0 : Witness) (r : Bool) (h : g_law15_Light w0 = some r) : Fun Try.prog 70 [.agg (cWitness w0)] (.val (.bool r)) := by
  refine Fun.of_bodyQ Try.func70 rfl (by simp [Try.ntmps70]) ?_
  rw [Try.ntmps70, TT.res_70]
  refine QW.view (s' := ⟨tab [(0, .d (.agg (cWitness w0)))], tabH [], 0, []⟩) (View.init (by rfl)) (Nat.zero_le _) ?_
  replace h := theC_get h
  obtain ⟨_, h⟩ := h
  obtain ⟨k0, rfl, h9⟩ := run_succ h; replace h := h9; clear h9
  refine QW.seq ?_
  refine QW.region (Nat.zero_le _) (PW.regT (by kernel_rfl) ?_)
  refine XK.fz (some 1) rfl rfl (sf_boxF (ds := cWitness w0) rfl rfl rfl rfl toDs_map ?_)
  refine XK.st (some 2) rfl rfl (sf_assign (v := .d (.val (.bool false))) rfl rfl ?_)
  refine XK.nil (nrm ?_)
  refine QW.seq ?_
  refine QW.seq ?_
  refine QW.region (Nat.zero_le _) (PW.regT (by kernel_rfl) ?_)
  refine XK.st (some 6) rfl rfl (sf_fldC rfl TT.fldA_91_1 (by decide) rfl ?_)
  refine XK.st (some 7) rfl rfl (sf_ldC (d := .slice ((w0.fLinks).map eLink)) rfl TT.tyA_89 rfl (ldc_Witness_1 _) ?_)
  refine XK.st (some 8) rfl rfl (sf_lenL (en := eLink) (l := w0.fLinks) rfl TT.under_89 rfl ?_)
  refine XK.st (some 9) rfl rfl (sf_gtr (a := ((w0.fLinks).length : Int)) (b := (70 : Int)) rfl rfl rfl ?_)
  refine XK.nil (nrm ?_)
  refine QW.cond (t := (decide ((70 : Int) < ((w0.fLinks).length : Int)))) rfl (Nat.zero_le _) (fun hb1 => ?_) (fun hb1 => ?_)
  · replace h := bGT h hb1
    refine QW.seq ?_
    refine QW.region (Nat.zero_le _) (PW.regT (by kernel_rfl) ?_)
    refine XK.st (some 2) rfl rfl (sf_assign (v := .d (.val (.bool false))) rfl rfl ?_)
    refine XK.nil (nrm ?_)
    refine QW.ret (Nat.zero_le _) (thR ?_)
    obtain rfl := sG h
    exact Ends.one (.inr rfl) rfl (ResIs.tmp rfl) rfl rfl
  · replace h := bGF h hb1
    refine QW.skip (Nat.zero_le _) (nrm ?_)
    refine QW.seq ?_
    refine QW.region (Nat.zero_le _) (PW.regT (by kernel_rfl) ?_)
    refine XK.st (some 3) rfl rfl (sf_assign (v := .d (.val (.int .i64 (0)))) rfl rfl ?_)
    refine XK.nil (nrm ?_)
    refine QW.seq ?_
    refine QW.seq ?_
    refine QW.region (Nat.zero_le _) (PW.regT (by kernel_rfl) ?_)
    refine XK.st (some 4) rfl rfl (sf_assign (v := .d (.val (.int .i64 (0)))) rfl rfl ?_)
    refine XK.nil (nrm ?_)
    refine QW.block ?_
    refine QW.loop (fun k σ => ∃ v3 : Int, ∃ v4 : Int, k ≤ k0 ∧ run (step_law15_Light w0) k (.L1 v3 v4) = some r ∧ σ = ⟨tab [(1, .d (.cptr (cWitness w0))), (3, .d (.val (.int .i64 v3))), (4, .d (.val (.int .i64 v4)))], tabH [], 0, []⟩) k0 (Nat.zero_le _) ⟨⟨tab [(1, .d (.cptr (cWitness w0))), (3, .d (.val (.int .i64 (0)))), (4, .d (.val (.int .i64 (0))))], tabH [], 0, []⟩, View.mk 0 [] _ _ _ rfl rfl (by decide) (And.intro (Imp.of_eq rfl) (And.intro (Imp.of_eq rfl) (And.intro (Imp.of_eq rfl) trivial))) trivial rfl (Nat.zero_le _) rfl, 0, 0, Nat.le_refl _, jG h, rfl⟩ ?_
    rintro k2s _ ⟨v3, v4, k2h, h, rfl⟩
    obtain ⟨k2, rfl, h9⟩ := run_succ h; replace h := h9; clear h9
    refine QW.seq ?_
    refine QW.seq ?_
    refine QW.region (Nat.zero_le _) (PW.regT (by kernel_rfl) ?_)
    refine XK.st (some 10) rfl rfl (sf_move (v := .d (.val (.int .i64 v4))) rfl rfl ?_)
    refine XK.st (some 11) rfl rfl (sf_fldC rfl TT.fldA_91_1 (by decide) rfl ?_)
    refine XK.st (some 12) rfl rfl (sf_ldC (d := .slice ((w0.fLinks).map eLink)) rfl TT.tyA_89 rfl (ldc_Witness_1 _) ?_)
    refine XK.st (some 13) rfl rfl (sf_lenL (en := eLink) (l := w0.fLinks) rfl TT.under_89 rfl ?_)
    refine XK.st (some 14) rfl rfl (sf_lss (a := v4) (b := ((w0.fLinks).length : Int)) rfl rfl rfl ?_)
    refine XK.nil (nrm ?_)
    refine QW.cond (t := (decide (v4 < ((w0.fLinks).length : Int)))) rfl (Nat.zero_le _) (fun hb3 => ?_) (fun hb3 => ?_)
    · replace h := bGT h hb3
      refine QW.skip (Nat.zero_le _) (nrm ?_)
      refine QW.seq ?_
      refine QW.block ?_
      refine QW.seq ?_
      refine QW.seq ?_
      refine QW.region (Nat.zero_le _) (PW.regT (by kernel_rfl) ?_)
      refine XK.st (some 17) rfl rfl (sf_fldC rfl TT.fldA_91_1 (by decide) rfl ?_)
      refine XK.st (some 18) rfl rfl (sf_ldC (d := .slice ((w0.fLinks).map eLink)) rfl TT.tyA_89 rfl (ldc_Witness_1 _) ?_)
      refine XK.st (some 19) rfl rfl (sf_move (v := .d (.val (.int .i64 v4))) rfl rfl ?_)
      obtain ⟨c4, h⟩ := gG h
      refine XK.st (some 20) rfl rfl (sf_idxA (l := w0.fLinks) (i := v4) rfl TT.slcA_89 lay_Link rfl rfl c4 ?_)
      refine XK.st (some 21) rfl rfl (sf_fldC rfl TT.fldA_96_1 (by decide) rfl ?_)
      refine XK.st (some 22) rfl rfl (sf_ldC (d := .slice (((idx (w0.fLinks) v4).fProof).map eS)) rfl TT.tyA_94 rfl (LdC.one) ?_)
      refine XK.st (some 23) rfl rfl (sf_lenL (en := eS) (l := (idx (w0.fLinks) v4).fProof) rfl TT.under_94 rfl ?_)
      refine XK.st (some 24) rfl rfl (sf_gtr (a := (((idx (w0.fLinks) v4).fProof).length : Int)) (b := (80 : Int)) rfl rfl rfl ?_)
      refine XK.nil (nrm ?_)
      refine QW.cond (t := (decide ((80 : Int) < (((idx (w0.fLinks) v4).fProof).length : Int)))) rfl (Nat.zero_le _) (fun hb5 => ?_) (fun hb5 => ?_)
      · replace h := bGT h hb5
        refine QW.seq ?_
        refine QW.region (Nat.zero_le _) (PW.regT (by kernel_rfl) ?_)
        refine XK.st (some 2) rfl rfl (sf_assign (v := .d (.val (.bool false))) rfl rfl ?_)
        refine XK.nil (nrm ?_)
        refine QW.ret (Nat.zero_le _) (thR (blR (thR (thR (blR (thR ?_))))))
        obtain rfl := sG h
        exact Ends.one (.inr rfl) rfl (ResIs.tmp rfl) rfl rfl
      · replace h := bGF h hb5
        refine QW.skip (Nat.zero_le _) (nrm ?_)
        refine QW.seq ?_
        refine QW.region (Nat.zero_le _) (PW.regT (by kernel_rfl) ?_)
        refine XK.st (some 25) rfl rfl (sf_move (v := .d (.val (.int .i64 v3))) rfl rfl ?_)
        refine XK.st (some 26) rfl rfl (sf_fldC rfl TT.fldA_91_1 (by decide) rfl ?_)
        refine XK.st (some 27) rfl rfl (sf_ldC (d := .slice ((w0.fLinks).map eLink)) rfl TT.tyA_89 rfl (ldc_Witness_1 _) ?_)
        refine XK.st (some 28) rfl rfl (sf_move (v := .d (.val (.int .i64 v4))) rfl rfl ?_)
        obtain ⟨c6, h⟩ := gG h
        refine XK.st (some 29) rfl rfl (sf_idxA (l := w0.fLinks) (i := v4) rfl TT.slcA_89 lay_Link rfl rfl c6 ?_)
        refine XK.st (some 30) rfl rfl (sf_fldC rfl TT.fldA_96_1 (by decide) rfl ?_)
        refine XK.st (some 31) rfl rfl (sf_ldC (d := .slice (((idx (w0.fLinks) v4).fProof).map eS)) rfl TT.tyA_94 rfl (LdC.one) ?_)
        refine XK.st (some 32) rfl rfl (sf_lenL (en := eS) (l := (idx (w0.fLinks) v4).fProof) rfl TT.under_94 rfl ?_)
        obtain ⟨c7, h⟩ := gG h
        refine XK.st (some 33) rfl rfl (sf_add (a := v3) (b := (((idx (w0.fLinks) v4).fProof).length : Int)) rfl rfl rfl c7 ?_)
        refine XK.st (some 3) rfl rfl (sf_assign (v := .d (.val (.int .i64 (v3 + (((idx (w0.fLinks) v4).fProof).length : Int))))) rfl rfl ?_)
        refine XK.nil (nrm ?_)
        refine QW.seq ?_
        refine QW.region (Nat.zero_le _) (PW.regT (by kernel_rfl) ?_)
        refine XK.st (some 5) rfl rfl (sf_assign (v := .d (.val (.int .i64 (0)))) rfl rfl ?_)
        refine XK.nil (nrm ?_)
        refine QW.block ?_
        refine QW.loop (fun k σ => ∃ v3_5 : Int, ∃ v4_5 : Int, ∃ v5_3 : Int, k ≤ k2 ∧ run (step_law15_Light w0) k (.L2 v3_5 v4_5 v5_3) = some r ∧ σ = ⟨tab [(1, .d (.cptr (cWitness w0))), (3, .d (.val (.int .i64 v3_5))), (4, .d (.val (.int .i64 v4_5))), (5, .d (.val (.int .i64 v5_3)))], tabH [], 0, []⟩) k2 (Nat.zero_le _) ⟨⟨tab [(1, .d (.cptr (cWitness w0))), (3, .d (.val (.int .i64 (v3 + (((idx (w0.fLinks) v4).fProof).length : Int))))), (4, .d (.val (.int .i64 v4))), (5, .d (.val (.int .i64 (0))))], tabH [], 0, []⟩, View.mk 0 [] _ _ _ rfl rfl (by decide) (And.intro (Imp.of_eq rfl) (And.intro (Imp.of_eq rfl) (And.intro (Imp.of_eq rfl) (And.intro (Imp.of_eq rfl) trivial)))) trivial rfl (Nat.zero_le _) rfl, (v3 + (((idx (w0.fLinks) v4).fProof).length : Int)), v4, 0, Nat.le_refl _, jG h, rfl⟩ ?_
        rintro k8s _ ⟨v3_5, v4_5, v5_3, k8h, h, rfl⟩
        obtain ⟨k8, rfl, h9⟩ := run_succ h; replace h := h9; clear h9
        refine QW.seq ?_
        refine QW.seq ?_
        refine QW.region (Nat.zero_le _) (PW.regT (by kernel_rfl) ?_)
        refine XK.st (some 34) rfl rfl (sf_move (v := .d (.val (.int .i64 v5_3))) rfl rfl ?_)
        refine XK.st (some 35) rfl rfl (sf_fldC rfl TT.fldA_91_1 (by decide) rfl ?_)
        refine XK.st (some 36) rfl rfl (sf_ldC (d := .slice ((w0.fLinks).map eLink)) rfl TT.tyA_89 rfl (ldc_Witness_1 _) ?_)
        refine XK.st (some 37) rfl rfl (sf_move (v := .d (.val (.int .i64 v4_5))) rfl rfl ?_)
        obtain ⟨c9, h⟩ := gG h
        refine XK.st (some 38) rfl rfl (sf_idxA (l := w0.fLinks) (i := v4_5) rfl TT.slcA_89 lay_Link rfl rfl c9 ?_)
        refine XK.st (some 39) rfl rfl (sf_fldC rfl TT.fldA_96_1 (by decide) rfl ?_)
        refine XK.st (some 40) rfl rfl (sf_ldC (d := .slice (((idx (w0.fLinks) v4_5).fProof).map eS)) rfl TT.tyA_94 rfl (LdC.one) ?_)
        refine XK.st (some 41) rfl rfl (sf_lenL (en := eS) (l := (idx (w0.fLinks) v4_5).fProof) rfl TT.under_94 rfl ?_)
        refine XK.st (some 42) rfl rfl (sf_lss (a := v5_3) (b := (((idx (w0.fLinks) v4_5).fProof).length : Int)) rfl rfl rfl ?_)
        refine XK.nil (nrm ?_)
        refine QW.cond (t := (decide (v5_3 < (((idx (w0.fLinks) v4_5).fProof).length : Int)))) rfl (Nat.zero_le _) (fun hb10 => ?_) (fun hb10 => ?_)
        · replace h := bGT h hb10
          refine QW.skip (Nat.zero_le _) (nrm ?_)
          refine QW.seq ?_
          refine QW.block ?_
          refine QW.seq ?_
          refine QW.region (Nat.zero_le _) (PW.regT (by kernel_rfl) ?_)
          refine XK.st (some 45) rfl rfl (sf_fldC rfl TT.fldA_91_1 (by decide) rfl ?_)
          refine XK.st (some 46) rfl rfl (sf_ldC (d := .slice ((w0.fLinks).map eLink)) rfl TT.tyA_89 rfl (ldc_Witness_1 _) ?_)
          refine XK.st (some 47) rfl rfl (sf_move (v := .d (.val (.int .i64 v4_5))) rfl rfl ?_)
          obtain ⟨c11, h⟩ := gG h
          refine XK.st (some 48) rfl rfl (sf_idxA (l := w0.fLinks) (i := v4_5) rfl TT.slcA_89 lay_Link rfl rfl c11 ?_)
          refine XK.st (some 49) rfl rfl (sf_fldC rfl TT.fldA_96_1 (by decide) rfl ?_)
          refine XK.st (some 50) rfl rfl (sf_ldC (d := .slice (((idx (w0.fLinks) v4_5).fProof).map eS)) rfl TT.tyA_94 rfl (LdC.one) ?_)
          refine XK.st (some 51) rfl rfl (sf_move (v := .d (.val (.int .i64 v5_3))) rfl rfl ?_)
          obtain ⟨c12, h⟩ := gG h
          refine XK.st (some 52) rfl rfl (sf_idxA (l := (idx (w0.fLinks) v4_5).fProof) (i := v5_3) rfl TT.slcA_94 lay_S rfl rfl c12 ?_)
          refine XK.st (some 53) rfl rfl (sf_ldC (d := .val (sV (idx ((idx (w0.fLinks) v4_5).fProof) v5_3))) rfl TT.tyA_9 rfl (LdC.one) ?_)
          refine XK.st (some 54) rfl rfl (sf_lenS (l := (idx ((idx (w0.fLinks) v4_5).fProof) v5_3)) rfl TT.under_9 rfl ?_)
          refine XK.st (some 55) rfl rfl (sf_gtr (a := ((idx ((idx (w0.fLinks) v4_5).fProof) v5_3).length : Int)) (b := (700 : Int)) rfl rfl rfl ?_)
          refine XK.nil (nrm ?_)
          refine QW.cond (t := (decide ((700 : Int) < ((idx ((idx (w0.fLinks) v4_5).fProof) v5_3).length : Int)))) rfl (Nat.zero_le _) (fun hb13 => ?_) (fun hb13 => ?_)
          · replace h := bGT h hb13
            refine QW.seq ?_
            refine QW.region (Nat.zero_le _) (PW.regT (by kernel_rfl) ?_)
            refine XK.st (some 2) rfl rfl (sf_assign (v := .d (.val (.bool false))) rfl rfl ?_)
            refine XK.nil (nrm ?_)
            refine QW.ret (Nat.zero_le _) (blR (thR (thR (blR (blR (thR (thR (blR (thR ?_)))))))))
            obtain rfl := sG h
            exact Ends.one (.inr rfl) rfl (ResIs.tmp rfl) rfl rfl
          · replace h := bGF h hb13
            refine QW.skip (Nat.zero_le _) (blN (nrm ?_))
            refine QW.region (Nat.zero_le _) (PW.regT (by kernel_rfl) ?_)
            refine XK.st (some 43) rfl rfl (sf_move (v := .d (.val (.int .i64 v5_3))) rfl rfl ?_)
            obtain ⟨c14, h⟩ := gG h
            refine XK.st (some 44) rfl rfl (sf_add (a := v5_3) (b := (1 : Int)) rfl rfl rfl c14 ?_)
            refine XK.st (some 5) rfl rfl (sf_assign (v := .d (.val (.int .i64 (v5_3 + (1 : Int))))) rfl rfl ?_)
            refine XK.nil (nrm ?_)
            exact ⟨k8, by omega, ⟨tab [(1, .d (.cptr (cWitness w0))), (3, .d (.val (.int .i64 v3_5))), (4, .d (.val (.int .i64 v4_5))), (5, .d (.val (.int .i64 (v5_3 + (1 : Int)))))], tabH [], 0, []⟩, View.mk 0 [] _ _ _ rfl rfl (by decide) (And.intro (Imp.of_eq rfl) (And.intro (Imp.of_eq rfl) (And.intro (Imp.of_eq rfl) (And.intro (Imp.of_eq rfl) trivial)))) trivial rfl (Nat.zero_le _) rfl, v3_5, v4_5, (v5_3 + (1 : Int)), by omega, jG h, rfl⟩
        · replace h := bGF h hb10
          refine QW.exit (Nat.zero_le _) (thX (thX (exE (blN (nrm ?_)))))
          refine QW.region (Nat.zero_le _) (PW.regT (by kernel_rfl) ?_)
          refine XK.st (some 15) rfl rfl (sf_move (v := .d (.val (.int .i64 v4_5))) rfl rfl ?_)
          obtain ⟨c15, h⟩ := gG h
          refine XK.st (some 16) rfl rfl (sf_add (a := v4_5) (b := (1 : Int)) rfl rfl rfl c15 ?_)
          refine XK.st (some 4) rfl rfl (sf_assign (v := .d (.val (.int .i64 (v4_5 + (1 : Int))))) rfl rfl ?_)
          refine XK.nil (nrm ?_)
          exact ⟨k8, by omega, ⟨tab [(1, .d (.cptr (cWitness w0))), (3, .d (.val (.int .i64 v3_5))), (4, .d (.val (.int .i64 (v4_5 + (1 : Int)))))], tabH [], 0, []⟩, View.mk 0 [] _ _ _ rfl rfl (by decide) (And.intro (Imp.of_eq rfl) (And.intro (Imp.of_eq rfl) (And.intro (Imp.of_eq rfl) trivial))) trivial rfl (Nat.zero_le _) rfl, v3_5, (v4_5 + (1 : Int)), by omega, jG h, rfl⟩
    · replace h := bGF h hb3
      refine QW.exit (Nat.zero_le _) (thX (thX (exE (nrm ?_))))
      refine QW.seq ?_
      refine QW.region (Nat.zero_le _) (PW.regT (by kernel_rfl) ?_)
      refine XK.st (some 56) rfl rfl (sf_move (v := .d (.val (.int .i64 v3))) rfl rfl ?_)
      refine XK.st (some 57) rfl rfl (sf_leq (a := v3) (b := (300 : Int)) rfl rfl rfl ?_)
      refine XK.st (some 2) rfl rfl (sf_assign (v := .d (.val (.bool (decide (v3 ≤ (300 : Int)))))) rfl rfl ?_)
      refine XK.nil (nrm ?_)
      refine QW.ret (Nat.zero_le _) ?_
      obtain rfl := sG h
      exact Ends.one (.inr rfl) rfl (ResIs.tmp rfl) rfl rfl

noncomputable def g_law15_awake  : Option Bool :=
    ((g_wire_Put (⟨(Arr.rep 32 (0 : UInt8)), ([(⟨3, ([([97, 98] : List UInt8), ([99] : List UInt8)] : List (List UInt8))⟩ : Link), (⟨4, ([] : (List (List UInt8)))⟩ : Link)] : List Link)⟩ : Witness)).bind fun (x1 : ((List UInt8) × Int)) =>
    ((g_wire_Get (x1.1)).bind fun (x3 : (Witness × Int)) =>
    ((g_wire_Size (⟨(Arr.rep 32 (0 : UInt8)), ([(⟨3, ([([97, 98] : List UInt8), ([99] : List UInt8)] : List (List UInt8))⟩ : Link), (⟨4, ([] : (List (List UInt8)))⟩ : Link)] : List Link)⟩ : Witness)).bind fun (x5 : (Int × Int)) =>
    ((bif ((((decide ((x1.2) = (0 : Int))) && (decide ((40 : Int) < ((x1.1).length : Int)))) && (decide ((x3.2) = (0 : Int)))) == true) then g_wire_Same (⟨(Arr.rep 32 (0 : UInt8)), ([(⟨3, ([([97, 98] : List UInt8), ([99] : List UInt8)] : List (List UInt8))⟩ : Link), (⟨4, ([] : (List (List UInt8)))⟩ : Link)] : List Link)⟩ : Witness) (x3.1) else some default).bind fun (x7 : Bool) =>
    ((bif (((((((decide ((x1.2) = (0 : Int))) && (decide ((40 : Int) < ((x1.1).length : Int)))) && (decide ((x3.2) = (0 : Int)))) && x7) && (decide ((x5.1) = (2 : Int)))) && (decide ((x5.2) = (3 : Int)))) == true) then g_wire_Check (⟨(Arr.rep 32 (0 : UInt8)), ([] : (List Link))⟩ : Witness) else some default).bind fun (x9 : Int) =>
    some (((((((decide ((x1.2) = (0 : Int))) && (decide ((40 : Int) < ((x1.1).length : Int)))) && (decide ((x3.2) = (0 : Int)))) && x7) && (decide ((x5.1) = (2 : Int)))) && (decide ((x5.2) = (3 : Int)))) && (decide (x9 = (2 : Int)))))))))

set_option maxRecDepth 20000 in
set_option maxHeartbeats 4000000 in
theorem sim_law15_awake  (r : Bool) (h : g_law15_awake  = some r) : Fun Try.prog 71 [] (.val (.bool r)) := by
  refine Fun.of_bodyQ Try.func71 rfl (by simp [Try.ntmps71]) ?_
  rw [Try.ntmps71, TT.res_71]
  refine QW.view (s' := ⟨tab [], tabH [], 0, []⟩) (View.init (by rfl)) (Nat.zero_le _) ?_
  unfold g_law15_awake at h
  refine QW.seq ?_
  refine QW.region (Nat.zero_le _) (PW.regT (by kernel_rfl) ?_)
  refine XK.st (some 0) rfl rfl (sf_assign (v := .d (.val (.bool false))) rfl rfl ?_)
  refine XK.nil (nrm ?_)
  refine QW.seq ?_
  refine QW.region (Nat.zero_le _) (PW.regT (by kernel_rfl) ?_)
  refine XK.st (some 8) rfl rfl (sf_row (en := eS) (l := ([([97, 98] : List UInt8), ([99] : List UInt8)] : List (List UInt8))) rfl TT.rowA_94 lay_S rfl rfl (by decide) (by simp [solids, partsP, evP, ofVal, PV.solid, putS_at, tab, unS, unT, unC, asCond, Value.oneCell']) ?_)
  refine XK.st (some 9) rfl rfl (sf_bld (v := .agg [.d (.val (.int .i64 (3))), .full (([([97, 98] : List UInt8), ([99] : List UInt8)] : List (List UInt8)).map eS)]) rfl TT.bldA_96 (build_of rfl (fill_step (cells' := [.d (.val (.int .i64 (3))), .full (([] : (List (List UInt8))).map eS)]) rfl rfl rfl (Nat.le_of_ble_eq_true rfl) rfl (fill_step (cells' := [.d (.val (.int .i64 (3))), .full (([([97, 98] : List UInt8), ([99] : List UInt8)] : List (List UInt8)).map eS)]) rfl rfl rfl (Nat.le_of_ble_eq_true rfl) rfl fill_nil))) ?_)
  refine XK.st (some 10) rfl rfl (sf_bld (v := .agg [.d (.val (.int .i64 (4))), .full (([] : (List (List UInt8))).map eS)]) rfl TT.bldA_96 (build_of rfl (fill_step (cells' := [.d (.val (.int .i64 (4))), .full (([] : (List (List UInt8))).map eS)]) rfl rfl rfl (Nat.le_of_ble_eq_true rfl) rfl fill_nil)) ?_)
  refine XK.st (some 11) rfl rfl (sf_row (en := eLink) (l := ([(⟨3, ([([97, 98] : List UInt8), ([99] : List UInt8)] : List (List UInt8))⟩ : Link), (⟨4, ([] : (List (List UInt8)))⟩ : Link)] : List Link)) rfl TT.rowA_89 lay_Link (by first | rfl | (simp only [List.map_cons, List.map_nil, eLink_eq]; rfl)) rfl (by decide) (by simp [solids, partsP, evP, ofVal, PV.solid, putS_at, tab, unS, unT, unC, asCond, Value.oneCell']) ?_)
  refine XK.st (some 12) rfl rfl (sf_bld (v := .agg ((((Arr.rep 32 (0 : UInt8)).1.map byteD).map PV.d) ++ ([.full (([(⟨3, ([([97, 98] : List UInt8), ([99] : List UInt8)] : List (List UInt8))⟩ : Link), (⟨4, ([] : (List (List UInt8)))⟩ : Link)] : List Link).map eLink)]))) rfl TT.bldA_91 (build_of rfl (fill_step (p := .full (([(⟨3, ([([97, 98] : List UInt8), ([99] : List UInt8)] : List (List UInt8))⟩ : Link), (⟨4, ([] : (List (List UInt8)))⟩ : Link)] : List Link).map eLink)) (cells := ((((Arr.rep 32 (0 : UInt8)).1.map byteD).map PV.d) ++ ([.full (([] : (List Link)).map eLink)]))) (cells' := ((((Arr.rep 32 (0 : UInt8)).1.map byteD).map PV.d) ++ ([.full (([(⟨3, ([([97, 98] : List UInt8), ([99] : List UInt8)] : List (List UInt8))⟩ : Link), (⟨4, ([] : (List (List UInt8)))⟩ : Link)] : List Link).map eLink)]))) rfl rfl rfl (le_of_len (len_app (b := 1) (len_map2 _) rfl rfl) (Nat.le_of_ble_eq_true rfl)) (spl_in 32 0 (len_map2 _) rfl) fill_nil)) ?_)
  refine XK.st (some 1) rfl rfl (sf_alloc (l := ((((Arr.rep 32 (0 : UInt8)).1.map byteD).map PV.d) ++ ([.full (([] : (List Link)).map eLink)]))) rfl TT.zeroA_91 rfl rfl ?_)
  refine XK.st none rfl rfl (sf_stV (c := ((((Arr.rep 32 (0 : UInt8)).1.map byteD).map PV.d) ++ ([.full (([(⟨3, ([([97, 98] : List UInt8), ([99] : List UInt8)] : List (List UInt8))⟩ : Link), (⟨4, ([] : (List (List UInt8)))⟩ : Link)] : List Link).map eLink)]))) (l' := ((((Arr.rep 32 (0 : UInt8)).1.map byteD).map PV.d) ++ ([.full (([(⟨3, ([([97, 98] : List UInt8), ([99] : List UInt8)] : List (List UInt8))⟩ : Link), (⟨4, ([] : (List (List UInt8)))⟩ : Link)] : List Link).map eLink)]))) rfl TT.tyA_91 rfl rfl rfl rfl rfl (len_app (b := 1) (len_map2 _) rfl rfl) (le_of_len (len_app (b := 1) (len_map2 _) rfl rfl) (Nat.le_of_ble_eq_true rfl)) (spl_same ((len_app (b := 1) (len_map2 _) rfl rfl).trans (len_app (b := 1) (len_map2 _) rfl rfl).symm)) ?_)
  refine XK.nil (nrm ?_)
  refine QW.seq ?_
  refine QW.region (Nat.zero_le _) (PW.regT (by kernel_rfl) ?_)
  refine XK.as (some 14) rfl rfl (sf_ldV (v := .agg ((((Arr.rep 32 (0 : UInt8)).1.map byteD).map PV.d) ++ ([.full (([(⟨3, ([([97, 98] : List UInt8), ([99] : List UInt8)] : List (List UInt8))⟩ : Link), (⟨4, ([] : (List (List UInt8)))⟩ : Link)] : List Link).map eLink)]))) rfl TT.tyA_91 rfl rfl (ldv_whole (len_app (b := 1) (len_map2 _) rfl rfl) (by decide)) ⟨.d (.agg (cWitness (⟨(Arr.rep 32 (0 : UInt8)), ([(⟨3, ([([97, 98] : List UInt8), ([99] : List UInt8)] : List (List UInt8))⟩ : Link), (⟨4, ([] : (List (List UInt8)))⟩ : Link)] : List Link)⟩ : Witness))), (Imp.toD (toD_agg (toDs_app toDs_map rfl))), ?_⟩)
  obtain ⟨x1, hx2, h⟩ := bO h
  refine XK.st (some 15) rfl rfl (sf_call rfl rfl TT.enters_72 rfl (sim_wire_Put (⟨(Arr.rep 32 (0 : UInt8)), ([(⟨3, ([([97, 98] : List UInt8), ([99] : List UInt8)] : List (List UInt8))⟩ : Link), (⟨4, ([] : (List (List UInt8)))⟩ : Link)] : List Link)⟩ : Witness) _ hx2) ?_)
  refine XK.st (some 13) rfl rfl (sf_move (v := .d (.tuple [.val (sV (x1.1)), .val (.int .i64 (x1.2))])) rfl rfl ?_)
  refine XK.st (some 16) rfl rfl (sf_extract rfl rfl rfl ?_)
  refine XK.st (some 17) rfl rfl (sf_extract rfl rfl rfl ?_)
  refine XK.st (some 2) rfl rfl (sf_assign (v := .d (.val (sV (x1.1)))) rfl rfl ?_)
  refine XK.st (some 3) rfl rfl (sf_assign (v := .d (.val (.int .i64 (x1.2)))) rfl rfl ?_)
  refine XK.nil (nrm ?_)
  refine QW.seq ?_
  refine QW.view (s' := ⟨tab [(1, .vptr 0 0), (2, .d (.val (sV (x1.1)))), (3, .d (.val (.int .i64 (x1.2))))], tabH [.var ((((Arr.rep 32 (0 : UInt8)).1.map byteD).map PV.d) ++ ([.full (([(⟨3, ([([97, 98] : List UInt8), ([99] : List UInt8)] : List (List UInt8))⟩ : Link), (⟨4, ([] : (List (List UInt8)))⟩ : Link)] : List Link).map eLink)]))], 1, []⟩) (View.mk 1 [0] _ _ _ rfl rfl (by decide) (And.intro (Imp.of_eq rfl) (And.intro (Imp.of_eq rfl) (And.intro (Imp.of_eq rfl) trivial))) (And.intro (by simp only [HO.re, res_app, PV.res_d]; rfl) trivial) rfl (Nat.zero_le _) rfl) (Nat.zero_le _) ?_
  refine QW.region (Nat.zero_le _) (PW.regT (by kernel_rfl) ?_)
  refine XK.st (some 19) rfl rfl (sf_move (v := .d (.val (sV (x1.1)))) rfl rfl ?_)
  obtain ⟨x3, hx4, h⟩ := bO h
  refine XK.st (some 20) rfl rfl (sf_call rfl rfl TT.enters_78 rfl (sim_wire_Get (x1.1) _ hx4) ?_)
  refine XK.st (some 18) rfl rfl (sf_move (v := .d (.tuple [.agg (cWitness (x3.1)), .val (.int .i64 (x3.2))])) rfl rfl ?_)
  refine XK.st (some 21) rfl rfl (sf_extract rfl rfl rfl ?_)
  refine XK.st (some 22) rfl rfl (sf_extract rfl rfl rfl ?_)
  refine XK.st (some 4) rfl rfl (sf_alloc (l := ((((Arr.rep 32 (0 : UInt8)).1.map byteD).map PV.d) ++ ([.full (([] : (List Link)).map eLink)]))) rfl TT.zeroA_91 rfl rfl ?_)
  refine XK.st none rfl rfl (sf_stV (c := (((((x3.1).fKey).1.map byteD).map PV.d) ++ ([.d (.slice (((x3.1).fLinks).map eLink))]))) (l' := (((((x3.1).fKey).1.map byteD).map PV.d) ++ ([.d (.slice (((x3.1).fLinks).map eLink))]))) rfl TT.tyA_91 rfl rfl rfl rfl (show (cWitness (x3.1)).map PV.d = _ by simp only [cWitness, List.map_append]; rfl) (len_app (b := 1) (len_map2 _) rfl rfl) (le_of_len (len_app (b := 1) (len_map2 _) rfl rfl) (Nat.le_of_ble_eq_true rfl)) (spl_same ((len_app (b := 1) (len_map2 _) rfl rfl).trans (len_app (b := 1) (len_map2 _) rfl rfl).symm)) ?_)
  refine XK.st (some 5) rfl rfl (sf_assign (v := .d (.val (.int .i64 (x3.2)))) rfl rfl ?_)
  refine XK.nil (nrm ?_)
  refine QW.seq ?_
  refine QW.region (Nat.zero_le _) (PW.regT (by kernel_rfl) ?_)
  refine XK.as (some 24) rfl rfl (sf_ldV (v := .agg ((((Arr.rep 32 (0 : UInt8)).1.map byteD).map PV.d) ++ ([.full (([(⟨3, ([([97, 98] : List UInt8), ([99] : List UInt8)] : List (List UInt8))⟩ : Link), (⟨4, ([] : (List (List UInt8)))⟩ : Link)] : List Link).map eLink)]))) rfl TT.tyA_91 rfl rfl (ldv_whole (len_app (b := 1) (len_map2 _) rfl rfl) (by decide)) ⟨.d (.agg (cWitness (⟨(Arr.rep 32 (0 : UInt8)), ([(⟨3, ([([97, 98] : List UInt8), ([99] : List UInt8)] : List (List UInt8))⟩ : Link), (⟨4, ([] : (List (List UInt8)))⟩ : Link)] : List Link)⟩ : Witness))), (Imp.toD (toD_agg (toDs_app toDs_map rfl))), ?_⟩)
  obtain ⟨x5, hx6, h⟩ := bO h
  refine XK.st (some 25) rfl rfl (sf_call rfl rfl TT.enters_74 rfl (sim_wire_Size (⟨(Arr.rep 32 (0 : UInt8)), ([(⟨3, ([([97, 98] : List UInt8), ([99] : List UInt8)] : List (List UInt8))⟩ : Link), (⟨4, ([] : (List (List UInt8)))⟩ : Link)] : List Link)⟩ : Witness) _ hx6) ?_)
  refine XK.st (some 23) rfl rfl (sf_move (v := .d (.tuple [.val (.int .i64 (x5.1)), .val (.int .i64 (x5.2))])) rfl rfl ?_)
  refine XK.st (some 26) rfl rfl (sf_extract rfl rfl rfl ?_)
  refine XK.st (some 27) rfl rfl (sf_extract rfl rfl rfl ?_)
  refine XK.st (some 6) rfl rfl (sf_assign (v := .d (.val (.int .i64 (x5.1)))) rfl rfl ?_)
  refine XK.st (some 7) rfl rfl (sf_assign (v := .d (.val (.int .i64 (x5.2)))) rfl rfl ?_)
  refine XK.nil (nrm ?_)
  refine QW.seq ?_
  refine QW.view (s' := ⟨tab [(1, .vptr 0 0), (2, .d (.val (sV (x1.1)))), (3, .d (.val (.int .i64 (x1.2)))), (4, .vptr 1 0), (5, .d (.val (.int .i64 (x3.2)))), (6, .d (.val (.int .i64 (x5.1)))), (7, .d (.val (.int .i64 (x5.2))))], tabH [.var ((((Arr.rep 32 (0 : UInt8)).1.map byteD).map PV.d) ++ ([.full (([(⟨3, ([([97, 98] : List UInt8), ([99] : List UInt8)] : List (List UInt8))⟩ : Link), (⟨4, ([] : (List (List UInt8)))⟩ : Link)] : List Link).map eLink)])), .var (((((x3.1).fKey).1.map byteD).map PV.d) ++ ([.d (.slice (((x3.1).fLinks).map eLink))]))], 2, []⟩) (View.mk 2 [0, 1] _ _ _ rfl rfl (by decide) (And.intro (Imp.of_eq rfl) (And.intro (Imp.of_eq rfl) (And.intro (Imp.of_eq rfl) (And.intro (Imp.of_eq rfl) (And.intro (Imp.of_eq rfl) (And.intro (Imp.of_eq rfl) (And.intro (Imp.of_eq rfl) trivial))))))) (And.intro (by simp only [HO.re, res_app, PV.res_d]; rfl) (And.intro (by simp only [HO.re, res_app, PV.res_d]; rfl) trivial)) rfl (Nat.zero_le _) rfl) (Nat.zero_le _) ?_
  refine QW.region (Nat.zero_le _) (PW.regT (by kernel_rfl) ?_)
  refine XK.st (some 28) rfl rfl (sf_move (v := .d (.val (.int .i64 (x1.2)))) rfl rfl ?_)
  refine XK.st (some 29) rfl rfl (sf_eq (a := (x1.2)) (b := (0 : Int)) rfl rfl rfl ?_)
  refine XK.st (some 30) rfl rfl (sf_move (v := .d (.val (.bool (decide ((x1.2) = (0 : Int)))))) rfl rfl ?_)
  refine XK.gd (v := .d (.val (sV (x1.1)))) (T := []) (some 31) rfl rfl (by repeat (first | exact trivial | refine And.intro (fun hg => by first | rfl | exact hg | exact (Bool.and_eq_true_iff.mp hg).1 | exact (Bool.and_eq_true_iff.mp (Bool.and_eq_true_iff.mp hg).1).1) ?_)) (fun hg => sf_move (v := .d (.val (sV (x1.1)))) rfl rfl ⟨⟨rfl, rfl, rfl⟩, rfl, Imp.refl⟩) (fun _ _ hi => nomatch hi) ?_
  refine XK.gd (v := .d (.val (.int .i64 ((x1.1).length : Int)))) (T := []) (some 32) rfl rfl (by repeat (first | exact trivial | refine And.intro (fun hg => by first | rfl | exact hg | exact (Bool.and_eq_true_iff.mp hg).1 | exact (Bool.and_eq_true_iff.mp (Bool.and_eq_true_iff.mp hg).1).1) ?_)) (fun hg => sf_lenS (l := x1.1) rfl TT.under_9 rfl ⟨⟨rfl, rfl, rfl⟩, rfl, Imp.refl⟩) (fun _ _ hi => nomatch hi) ?_
  refine XK.gd (v := .d (.val (.bool (decide ((40 : Int) < ((x1.1).length : Int)))))) (T := []) (some 33) rfl rfl (by repeat (first | exact trivial | refine And.intro (fun hg => by first | rfl | exact hg | exact (Bool.and_eq_true_iff.mp hg).1 | exact (Bool.and_eq_true_iff.mp (Bool.and_eq_true_iff.mp hg).1).1) ?_)) (fun hg => sf_gtr (a := ((x1.1).length : Int)) (b := (40 : Int)) rfl rfl rfl ⟨⟨rfl, rfl, rfl⟩, rfl, Imp.refl⟩) (fun _ _ hi => nomatch hi) ?_
  refine XK.st (some 34) rfl rfl (sf_pickA rfl rfl rfl rfl (fun hb => by rw [hb]; rfl) (fun _ => rfl) ?_)
  refine XK.st (some 35) rfl rfl (sf_move (v := .d (.val (.bool ((decide ((x1.2) = (0 : Int))) && (decide ((40 : Int) < ((x1.1).length : Int))))))) rfl rfl ?_)
  refine XK.gd (v := .d (.val (.int .i64 (x3.2)))) (T := []) (some 36) rfl rfl (by repeat (first | exact trivial | refine And.intro (fun hg => by first | rfl | exact hg | exact (Bool.and_eq_true_iff.mp hg).1 | exact (Bool.and_eq_true_iff.mp (Bool.and_eq_true_iff.mp hg).1).1) ?_)) (fun hg => sf_move (v := .d (.val (.int .i64 (x3.2)))) rfl rfl ⟨⟨rfl, rfl, rfl⟩, rfl, Imp.refl⟩) (fun _ _ hi => nomatch hi) ?_
  refine XK.gd (v := .d (.val (.bool (decide ((x3.2) = (0 : Int)))))) (T := []) (some 37) rfl rfl (by repeat (first | exact trivial | refine And.intro (fun hg => by first | rfl | exact hg | exact (Bool.and_eq_true_iff.mp hg).1 | exact (Bool.and_eq_true_iff.mp (Bool.and_eq_true_iff.mp hg).1).1) ?_)) (fun hg => sf_eq (a := (x3.2)) (b := (0 : Int)) rfl rfl rfl ⟨⟨rfl, rfl, rfl⟩, rfl, Imp.refl⟩) (fun _ _ hi => nomatch hi) ?_
  refine XK.st (some 38) rfl rfl (sf_pickA rfl rfl rfl rfl (fun hb => by rw [hb]; rfl) (fun _ => rfl) ?_)
  refine XK.st (some 39) rfl rfl (sf_move (v := .d (.val (.bool (((decide ((x1.2) = (0 : Int))) && (decide ((40 : Int) < ((x1.1).length : Int)))) && (decide ((x3.2) = (0 : Int))))))) rfl rfl ?_)
  refine XK.gd (v := .d (.agg (cWitness (⟨(Arr.rep 32 (0 : UInt8)), ([(⟨3, ([([97, 98] : List UInt8), ([99] : List UInt8)] : List (List UInt8))⟩ : Link), (⟨4, ([] : (List (List UInt8)))⟩ : Link)] : List Link)⟩ : Witness)))) (T := [0]) (some 40) rfl rfl (by repeat (first | exact trivial | refine And.intro (fun hg => by first | rfl | exact hg | exact (Bool.and_eq_true_iff.mp hg).1 | exact (Bool.and_eq_true_iff.mp (Bool.and_eq_true_iff.mp hg).1).1) ?_)) (fun hg => sf_ldV (v := .agg ((((Arr.rep 32 (0 : UInt8)).1.map byteD).map PV.d) ++ ([.full (([(⟨3, ([([97, 98] : List UInt8), ([99] : List UInt8)] : List (List UInt8))⟩ : Link), (⟨4, ([] : (List (List UInt8)))⟩ : Link)] : List Link).map eLink)]))) rfl TT.tyA_91 rfl rfl (ldv_whole (len_app (b := 1) (len_map2 _) rfl rfl) (by decide)) ⟨⟨rfl, rfl, rfl⟩, rfl, (Imp.toD (toD_agg (toDs_app toDs_map rfl)))⟩) (fun _ i hi => by simp only [List.mem_singleton] at hi; subst hi; decide) ?_
  refine XK.gd (v := .d (.agg (cWitness (x3.1)))) (T := [1]) (some 41) rfl rfl (by repeat (first | exact trivial | refine And.intro (fun hg => by first | rfl | exact hg | exact (Bool.and_eq_true_iff.mp hg).1 | exact (Bool.and_eq_true_iff.mp (Bool.and_eq_true_iff.mp hg).1).1) ?_)) (fun hg => sf_ldV (v := .agg (((((x3.1).fKey).1.map byteD).map PV.d) ++ ([.d (.slice (((x3.1).fLinks).map eLink))]))) rfl TT.tyA_91 rfl rfl (ldv_whole (len_app (b := 1) (len_map2 _) rfl rfl) (by decide)) ⟨⟨rfl, rfl, rfl⟩, rfl, (Imp.toD (toD_agg (toDs_app toDs_map rfl)))⟩) (fun _ i hi => by simp only [List.mem_singleton] at hi; subst hi; decide) ?_
  obtain ⟨x7, hx8, h⟩ := bO h
  refine XK.gd (v := .d (.val (.bool x7))) (T := []) (some 42) rfl rfl (by repeat (first | exact trivial | refine And.intro (fun hg => by first | rfl | exact hg | exact (Bool.and_eq_true_iff.mp hg).1 | exact (Bool.and_eq_true_iff.mp (Bool.and_eq_true_iff.mp hg).1).1) ?_)) (fun hg => sf_call rfl rfl TT.enters_76 rfl (sim_wire_Same (⟨(Arr.rep 32 (0 : UInt8)), ([(⟨3, ([([97, 98] : List UInt8), ([99] : List UInt8)] : List (List UInt8))⟩ : Link), (⟨4, ([] : (List (List UInt8)))⟩ : Link)] : List Link)⟩ : Witness) (x3.1) _ (bT hx8 hg)) ⟨⟨rfl, rfl, rfl⟩, rfl, Imp.refl⟩) (fun _ _ hi => nomatch hi) ?_
  refine XK.st (some 43) rfl rfl (sf_pickA rfl rfl rfl rfl (fun hb => by rw [hb]; rfl) (fun _ => rfl) ?_)
  refine XK.st (some 44) rfl rfl (sf_move (v := .d (.val (.bool ((((decide ((x1.2) = (0 : Int))) && (decide ((40 : Int) < ((x1.1).length : Int)))) && (decide ((x3.2) = (0 : Int)))) && x7)))) rfl rfl ?_)
  refine XK.gd (v := .d (.val (.int .i64 (x5.1)))) (T := []) (some 45) rfl rfl (by repeat (first | exact trivial | refine And.intro (fun hg => by first | rfl | exact hg | exact (Bool.and_eq_true_iff.mp hg).1 | exact (Bool.and_eq_true_iff.mp (Bool.and_eq_true_iff.mp hg).1).1) ?_)) (fun hg => sf_move (v := .d (.val (.int .i64 (x5.1)))) rfl rfl ⟨⟨rfl, rfl, rfl⟩, rfl, Imp.refl⟩) (fun _ _ hi => nomatch hi) ?_
  refine XK.gd (v := .d (.val (.bool (decide ((x5.1) = (2 : Int)))))) (T := []) (some 46) rfl rfl (by repeat (first | exact trivial | refine And.intro (fun hg => by first | rfl | exact hg | exact (Bool.and_eq_true_iff.mp hg).1 | exact (Bool.and_eq_true_iff.mp (Bool.and_eq_true_iff.mp hg).1).1) ?_)) (fun hg => sf_eq (a := (x5.1)) (b := (2 : Int)) rfl rfl rfl ⟨⟨rfl, rfl, rfl⟩, rfl, Imp.refl⟩) (fun _ _ hi => nomatch hi) ?_
  refine XK.st (some 47) rfl rfl (sf_pickA rfl rfl rfl rfl (fun hb => by rw [hb]; rfl) (fun _ => rfl) ?_)
  refine XK.st (some 48) rfl rfl (sf_move (v := .d (.val (.bool (((((decide ((x1.2) = (0 : Int))) && (decide ((40 : Int) < ((x1.1).length : Int)))) && (decide ((x3.2) = (0 : Int)))) && x7) && (decide ((x5.1) = (2 : Int))))))) rfl rfl ?_)
  refine XK.gd (v := .d (.val (.int .i64 (x5.2)))) (T := []) (some 49) rfl rfl (by repeat (first | exact trivial | refine And.intro (fun hg => by first | rfl | exact hg | exact (Bool.and_eq_true_iff.mp hg).1 | exact (Bool.and_eq_true_iff.mp (Bool.and_eq_true_iff.mp hg).1).1) ?_)) (fun hg => sf_move (v := .d (.val (.int .i64 (x5.2)))) rfl rfl ⟨⟨rfl, rfl, rfl⟩, rfl, Imp.refl⟩) (fun _ _ hi => nomatch hi) ?_
  refine XK.gd (v := .d (.val (.bool (decide ((x5.2) = (3 : Int)))))) (T := []) (some 50) rfl rfl (by repeat (first | exact trivial | refine And.intro (fun hg => by first | rfl | exact hg | exact (Bool.and_eq_true_iff.mp hg).1 | exact (Bool.and_eq_true_iff.mp (Bool.and_eq_true_iff.mp hg).1).1) ?_)) (fun hg => sf_eq (a := (x5.2)) (b := (3 : Int)) rfl rfl rfl ⟨⟨rfl, rfl, rfl⟩, rfl, Imp.refl⟩) (fun _ _ hi => nomatch hi) ?_
  refine XK.st (some 51) rfl rfl (sf_pickA rfl rfl rfl rfl (fun hb => by rw [hb]; rfl) (fun _ => rfl) ?_)
  refine XK.st (some 52) rfl rfl (sf_move (v := .d (.val (.bool ((((((decide ((x1.2) = (0 : Int))) && (decide ((40 : Int) < ((x1.1).length : Int)))) && (decide ((x3.2) = (0 : Int)))) && x7) && (decide ((x5.1) = (2 : Int)))) && (decide ((x5.2) = (3 : Int))))))) rfl rfl ?_)
  refine XK.gd (v := .agg ((((Arr.rep 32 (0 : UInt8)).1.map byteD).map PV.d) ++ ([.full (([] : (List Link)).map eLink)]))) (T := []) (some 53) rfl rfl (by repeat (first | exact trivial | refine And.intro (fun hg => by first | rfl | exact hg | exact (Bool.and_eq_true_iff.mp hg).1 | exact (Bool.and_eq_true_iff.mp (Bool.and_eq_true_iff.mp hg).1).1) ?_)) (fun hg => sf_bld (v := .agg ((((Arr.rep 32 (0 : UInt8)).1.map byteD).map PV.d) ++ ([.full (([] : (List Link)).map eLink)]))) rfl TT.bldA_91 (build_of rfl fill_nil) ⟨⟨rfl, rfl, rfl⟩, rfl, Imp.refl⟩) (fun _ _ hi => nomatch hi) ?_
  obtain ⟨x9, hx10, h⟩ := bO h
  refine XK.gd (v := .d (.val (.int .i64 x9))) (T := []) (some 54) rfl rfl (by repeat (first | exact trivial | refine And.intro (fun hg => by first | rfl | exact hg | exact (Bool.and_eq_true_iff.mp hg).1 | exact (Bool.and_eq_true_iff.mp (Bool.and_eq_true_iff.mp hg).1).1) ?_)) (fun hg => sf_call rfl rfl TT.enters_75 rfl (sim_wire_Check (⟨(Arr.rep 32 (0 : UInt8)), ([] : (List Link))⟩ : Witness) _ (bT hx10 hg)) ⟨⟨rfl, rfl, rfl⟩, rfl, Imp.refl⟩) (fun _ _ hi => nomatch hi) ?_
  refine XK.gd (v := .d (.val (.bool (decide (x9 = (2 : Int)))))) (T := []) (some 55) rfl rfl (by repeat (first | exact trivial | refine And.intro (fun hg => by first | rfl | exact hg | exact (Bool.and_eq_true_iff.mp hg).1 | exact (Bool.and_eq_true_iff.mp (Bool.and_eq_true_iff.mp hg).1).1) ?_)) (fun hg => sf_eq (a := x9) (b := (2 : Int)) rfl rfl rfl ⟨⟨rfl, rfl, rfl⟩, rfl, Imp.refl⟩) (fun _ _ hi => nomatch hi) ?_
  refine XK.st (some 56) rfl rfl (sf_pickA rfl rfl rfl rfl (fun hb => by rw [hb]; rfl) (fun _ => rfl) ?_)
  refine XK.st (some 0) rfl rfl (sf_assign (v := .d (.val (.bool (((((((decide ((x1.2) = (0 : Int))) && (decide ((40 : Int) < ((x1.1).length : Int)))) && (decide ((x3.2) = (0 : Int)))) && x7) && (decide ((x5.1) = (2 : Int)))) && (decide ((x5.2) = (3 : Int)))) && (decide (x9 = (2 : Int))))))) rfl rfl ?_)
  refine XK.nil (nrm ?_)
  refine QW.ret (Nat.zero_le _) ?_
  obtain rfl := sO h
  exact Ends.one (.inr rfl) rfl (ResIs.tmp rfl) rfl rfl

inductive C_law15_WirePuts where
  | S
  | L1 (v5_2 : (List UInt8)) (v6_2 : Int) (v7_2 : Bool) (v8 : Int) (v9 : Int) (v10 : Int)

noncomputable def step_law15_WirePuts (w0 : Witness) (z1 : Witness) : C_law15_WirePuts → Option (C_law15_WirePuts ⊕ Bool)
  | .S =>
    ((g_law15_Light w0).bind fun (x1 : Bool) =>
    ((bif ((!x1) == false) then g_law15_Light z1 else some default).bind fun (x3 : Bool) =>
    (bif ((!x1) || (!x3)) then
    ((g_law15_awake ).bind fun (x6 : Bool) =>
    some (.inr x6))
    else
    ((g_wire_Put w0).bind fun (x8 : ((List UInt8) × Int)) =>
    ((g_ref15_May w0).bind fun (x10 : Bool) =>
    some (.inl (.L1 (x8.1) (x8.2) x10 (0) (0) (0))))))))
  | .L1 v5_2 v6_2 v7_2 v8 v9 v10 =>
    (bif (decide (v10 < ((w0.fLinks).length : Int))) then
    gO (0 ≤ v10 ∧ v10 < ((w0.fLinks).length : Int)) (
    gO (inI (v8 + (((idx (w0.fLinks) v10).fProof).length : Int))) (
    gO (0 ≤ v10 ∧ v10 < ((w0.fLinks).length : Int)) (
    ((g_ref13_Bytes ((idx (w0.fLinks) v10).fProof)).bind fun (x17 : Int) =>
    gO (inI (v9 + x17)) (
    gO (inI (v10 + (1 : Int))) (
    some (.inl (.L1 v5_2 v6_2 v7_2 (v8 + (((idx (w0.fLinks) v10).fProof).length : Int)) (v9 + x17) (v10 + (1 : Int))))))))))
    else
    ((g_wire_Size w0).bind fun (x21 : (Int × Int)) =>
    ((g_wire_Check w0).bind fun (x23 : Int) =>
    ((bif ((((!((decide (x23 = (0 : Int))) == v7_2)) || (!decide ((x21.1) = v8))) || (!decide ((x21.2) = v9))) == false) then g_wire_Same w0 z1 else some default).bind fun (x25 : Bool) =>
    ((bif ((((!((decide (x23 = (0 : Int))) == v7_2)) || (!decide ((x21.1) = v8))) || (!decide ((x21.2) = v9))) == false) then g_ref15_Same w0 z1 else some default).bind fun (x27 : Bool) =>
    (bif ((((!((decide (x23 = (0 : Int))) == v7_2)) || (!decide ((x21.1) = v8))) || (!decide ((x21.2) = v9))) || (!(x25 == x27))) then
    some (.inr false)
    else
    (bif (!v7_2) then
    ((g_law15_awake ).bind fun (x31 : Bool) =>
    some (.inr ((x31 && (v5_2 == ([] : List UInt8))) && (decide (v6_2 = (2 : Int))))))
    else
    ((g_wire_Get v5_2).bind fun (x33 : (Witness × Int)) =>
    ((g_law15_awake ).bind fun (x35 : Bool) =>
    ((bif ((x35 && (decide (v6_2 = (0 : Int)))) == true) then g_ref15_Item w0 else some default).bind fun (x37 : Item) =>
    ((bif ((x35 && (decide (v6_2 = (0 : Int)))) == true) then g_ref05_Put x37 else some default).bind fun (x39 : (List UInt8)) =>
    ((bif ((((x35 && (decide (v6_2 = (0 : Int)))) && (v5_2 == x39)) && (decide ((x33.2) = (0 : Int)))) == true) then g_ref15_Same (x33.1) w0 else some default).bind fun (x41 : Bool) =>
    some (.inr ((((x35 && (decide (v6_2 = (0 : Int)))) && (v5_2 == x39)) && (decide ((x33.2) = (0 : Int)))) && x41))))))))))))))

noncomputable def g_law15_WirePuts (w0 : Witness) (z1 : Witness) : Option Bool := theC (step_law15_WirePuts w0 z1) .S

set_option maxRecDepth 20000 in
set_option maxHeartbeats 4000000 in
theorem sim_law15_WirePuts (w0 : Witness) (z1 : Witness) (r : Bool) (h : g_law15_WirePuts w0 z1 = some r) : Fun Try.prog 12 [.agg (cWitness w0), .agg (cWitness z1)] (.val (.bool r)) := by
  refine Fun.of_bodyQ Try.func12 rfl (by simp [Try.ntmps12]) ?_
  rw [Try.ntmps12, TT.res_12]
  refine QW.view (s' := ⟨tab [(0, .d (.agg (cWitness w0))), (1, .d (.agg (cWitness z1)))], tabH [], 0, []⟩) (View.init (by rfl)) (Nat.zero_le _) ?_
  replace h := theC_get h
  obtain ⟨_, h⟩ := h
  obtain ⟨k0, rfl, h9⟩ := run_succ h; replace h := h9; clear h9
  refine QW.seq ?_
  refine QW.region (Nat.zero_le _) (PW.regT (by kernel_rfl) ?_)
  refine XK.fz (some 2) rfl rfl (sf_boxF (ds := cWitness w0) rfl rfl rfl rfl toDs_map ?_)
  refine XK.fz (some 3) rfl rfl (sf_boxF (ds := cWitness z1) rfl rfl rfl rfl toDs_map ?_)
  refine XK.st (some 4) rfl rfl (sf_assign (v := .d (.val (.bool false))) rfl rfl ?_)
  refine XK.nil (nrm ?_)
  refine QW.seq ?_
  refine QW.seq ?_
  refine QW.region (Nat.zero_le _) (PW.regT (by kernel_rfl) ?_)
  refine XK.st (some 15) rfl rfl (sf_ldC (d := .agg (cWitness w0)) rfl TT.tyA_91 rfl (⟨by rw [lay_Witness.len]; decide, congrArg D.agg (List.take_of_length_le (by rw [lay_Witness.len]; decide))⟩) ?_)
  obtain ⟨x1, hx2, h⟩ := bG h
  refine XK.st (some 16) rfl rfl (sf_call rfl rfl TT.enters_70 rfl (sim_law15_Light w0 _ hx2) ?_)
  refine XK.st (some 17) rfl rfl (sf_not rfl rfl ?_)
  refine XK.st (some 18) rfl rfl (sf_move (v := .d (.val (.bool (!x1)))) rfl rfl ?_)
  refine XK.gd (v := .d (.agg (cWitness z1))) (T := []) (some 19) rfl rfl (by repeat (first | exact trivial | refine And.intro (fun hg => by first | rfl | exact hg | exact (Bool.and_eq_true_iff.mp hg).1 | exact (Bool.and_eq_true_iff.mp (Bool.and_eq_true_iff.mp hg).1).1) ?_)) (fun hg => sf_ldC (d := .agg (cWitness z1)) rfl TT.tyA_91 rfl (⟨by rw [lay_Witness.len]; decide, congrArg D.agg (List.take_of_length_le (by rw [lay_Witness.len]; decide))⟩) ⟨⟨rfl, rfl, rfl⟩, rfl, Imp.refl⟩) (fun _ _ hi => nomatch hi) ?_
  obtain ⟨x3, hx4, h⟩ := bG h
  refine XK.gd (v := .d (.val (.bool x3))) (T := []) (some 20) rfl rfl (by repeat (first | exact trivial | refine And.intro (fun hg => by first | rfl | exact hg | exact (Bool.and_eq_true_iff.mp hg).1 | exact (Bool.and_eq_true_iff.mp (Bool.and_eq_true_iff.mp hg).1).1) ?_)) (fun hg => sf_call rfl rfl TT.enters_70 rfl (sim_law15_Light z1 _ (bT hx4 hg)) ⟨⟨rfl, rfl, rfl⟩, rfl, Imp.refl⟩) (fun _ _ hi => nomatch hi) ?_
  refine XK.gd (v := .d (.val (.bool (!x3)))) (T := []) (some 21) rfl rfl (by repeat (first | exact trivial | refine And.intro (fun hg => by first | rfl | exact hg | exact (Bool.and_eq_true_iff.mp hg).1 | exact (Bool.and_eq_true_iff.mp (Bool.and_eq_true_iff.mp hg).1).1) ?_)) (fun hg => sf_not rfl rfl ⟨⟨rfl, rfl, rfl⟩, rfl, Imp.refl⟩) (fun _ _ hi => nomatch hi) ?_
  refine XK.st (some 22) rfl rfl (sf_pickO rfl rfl rfl rfl (fun _ => rfl) (fun hb => by rw [hb]; rfl) ?_)
  refine XK.nil (nrm ?_)
  refine QW.cond (t := ((!x1) || (!x3))) rfl (Nat.zero_le _) (fun hb5 => ?_) (fun hb5 => ?_)
  · replace h := bGT h hb5
    refine QW.seq ?_
    refine QW.region (Nat.zero_le _) (PW.regT (by kernel_rfl) ?_)
    obtain ⟨x6, hx7, h⟩ := bG h
    refine XK.st (some 23) rfl rfl (sf_call rfl rfl TT.enters_71 rfl (sim_law15_awake  _ hx7) ?_)
    refine XK.st (some 4) rfl rfl (sf_assign (v := .d (.val (.bool x6))) rfl rfl ?_)
    refine XK.nil (nrm ?_)
    refine QW.ret (Nat.zero_le _) (thR ?_)
    obtain rfl := sG h
    exact Ends.one (.inr rfl) rfl (ResIs.tmp rfl) rfl rfl
  · replace h := bGF h hb5
    refine QW.skip (Nat.zero_le _) (nrm ?_)
    refine QW.seq ?_
    refine QW.region (Nat.zero_le _) (PW.regT (by kernel_rfl) ?_)
    refine XK.st (some 25) rfl rfl (sf_ldC (d := .agg (cWitness w0)) rfl TT.tyA_91 rfl (⟨by rw [lay_Witness.len]; decide, congrArg D.agg (List.take_of_length_le (by rw [lay_Witness.len]; decide))⟩) ?_)
    obtain ⟨x8, hx9, h⟩ := bG h
    refine XK.st (some 26) rfl rfl (sf_call rfl rfl TT.enters_72 rfl (sim_wire_Put w0 _ hx9) ?_)
    refine XK.st (some 24) rfl rfl (sf_move (v := .d (.tuple [.val (sV (x8.1)), .val (.int .i64 (x8.2))])) rfl rfl ?_)
    refine XK.st (some 27) rfl rfl (sf_extract rfl rfl rfl ?_)
    refine XK.st (some 28) rfl rfl (sf_extract rfl rfl rfl ?_)
    refine XK.st (some 5) rfl rfl (sf_assign (v := .d (.val (sV (x8.1)))) rfl rfl ?_)
    refine XK.st (some 6) rfl rfl (sf_assign (v := .d (.val (.int .i64 (x8.2)))) rfl rfl ?_)
    refine XK.nil (nrm ?_)
    refine QW.seq ?_
    refine QW.region (Nat.zero_le _) (PW.regT (by kernel_rfl) ?_)
    refine XK.st (some 29) rfl rfl (sf_ldC (d := .agg (cWitness w0)) rfl TT.tyA_91 rfl (⟨by rw [lay_Witness.len]; decide, congrArg D.agg (List.take_of_length_le (by rw [lay_Witness.len]; decide))⟩) ?_)
    obtain ⟨x10, hx11, h⟩ := bG h
    refine XK.st (some 30) rfl rfl (sf_call rfl rfl TT.enters_73 rfl (sim_ref15_May w0 _ hx11) ?_)
    refine XK.st (some 7) rfl rfl (sf_assign (v := .d (.val (.bool x10))) rfl rfl ?_)
    refine XK.nil (nrm ?_)
    refine QW.seq ?_
    refine QW.region (Nat.zero_le _) (PW.regT (by kernel_rfl) ?_)
    refine XK.st (some 8) rfl rfl (sf_assign (v := .d (.val (.int .i64 (0)))) rfl rfl ?_)
    refine XK.st (some 9) rfl rfl (sf_assign (v := .d (.val (.int .i64 (0)))) rfl rfl ?_)
    refine XK.nil (nrm ?_)
    refine QW.seq ?_
    refine QW.seq ?_
    refine QW.region (Nat.zero_le _) (PW.regT (by kernel_rfl) ?_)
    refine XK.st (some 10) rfl rfl (sf_assign (v := .d (.val (.int .i64 (0)))) rfl rfl ?_)
    refine XK.nil (nrm ?_)
    refine QW.block ?_
    refine QW.loop (fun k σ => ∃ v5_2 : (List UInt8), ∃ v6_2 : Int, ∃ v7_2 : Bool, ∃ v8 : Int, ∃ v9 : Int, ∃ v10 : Int, k ≤ k0 ∧ run (step_law15_WirePuts w0 z1) k (.L1 v5_2 v6_2 v7_2 v8 v9 v10) = some r ∧ σ = ⟨tab [(2, .d (.cptr (cWitness w0))), (3, .d (.cptr (cWitness z1))), (5, .d (.val (sV v5_2))), (6, .d (.val (.int .i64 v6_2))), (7, .d (.val (.bool v7_2))), (8, .d (.val (.int .i64 v8))), (9, .d (.val (.int .i64 v9))), (10, .d (.val (.int .i64 v10)))], tabH [], 0, []⟩) k0 (Nat.zero_le _) ⟨⟨tab [(2, .d (.cptr (cWitness w0))), (3, .d (.cptr (cWitness z1))), (5, .d (.val (sV (x8.1)))), (6, .d (.val (.int .i64 (x8.2)))), (7, .d (.val (.bool x10))), (8, .d (.val (.int .i64 (0)))), (9, .d (.val (.int .i64 (0)))), (10, .d (.val (.int .i64 (0))))], tabH [], 0, []⟩, View.mk 0 [] _ _ _ rfl rfl (by decide) (And.intro (Imp.of_eq rfl) (And.intro (Imp.of_eq rfl) (And.intro (Imp.of_eq rfl) (And.intro (Imp.of_eq rfl) (And.intro (Imp.of_eq rfl) (And.intro (Imp.of_eq rfl) (And.intro (Imp.of_eq rfl) (And.intro (Imp.of_eq rfl) trivial)))))))) trivial rfl (Nat.zero_le _) rfl, x8.1, x8.2, x10, 0, 0, 0, Nat.le_refl _, jG h, rfl⟩ ?_
    rintro k12s _ ⟨v5_2, v6_2, v7_2, v8, v9, v10, k12h, h, rfl⟩
    obtain ⟨k12, rfl, h9⟩ := run_succ h; replace h := h9; clear h9
    refine QW.seq ?_
    refine QW.seq ?_
    refine QW.region (Nat.zero_le _) (PW.regT (by kernel_rfl) ?_)
    refine XK.st (some 31) rfl rfl (sf_move (v := .d (.val (.int .i64 v10))) rfl rfl ?_)
    refine XK.st (some 32) rfl rfl (sf_fldC rfl TT.fldA_91_1 (by decide) rfl ?_)
    refine XK.st (some 33) rfl rfl (sf_ldC (d := .slice ((w0.fLinks).map eLink)) rfl TT.tyA_89 rfl (ldc_Witness_1 _) ?_)
    refine XK.st (some 34) rfl rfl (sf_lenL (en := eLink) (l := w0.fLinks) rfl TT.under_89 rfl ?_)
    refine XK.st (some 35) rfl rfl (sf_lss (a := v10) (b := ((w0.fLinks).length : Int)) rfl rfl rfl ?_)
    refine XK.nil (nrm ?_)
    refine QW.cond (t := (decide (v10 < ((w0.fLinks).length : Int)))) rfl (Nat.zero_le _) (fun hb13 => ?_) (fun hb13 => ?_)
    · replace h := bGT h hb13
      refine QW.skip (Nat.zero_le _) (nrm ?_)
      refine QW.seq ?_
      refine QW.block ?_
      refine QW.seq ?_
      refine QW.region (Nat.zero_le _) (PW.regT (by kernel_rfl) ?_)
      refine XK.st (some 38) rfl rfl (sf_move (v := .d (.val (.int .i64 v8))) rfl rfl ?_)
      refine XK.st (some 39) rfl rfl (sf_fldC rfl TT.fldA_91_1 (by decide) rfl ?_)
      refine XK.st (some 40) rfl rfl (sf_ldC (d := .slice ((w0.fLinks).map eLink)) rfl TT.tyA_89 rfl (ldc_Witness_1 _) ?_)
      refine XK.st (some 41) rfl rfl (sf_move (v := .d (.val (.int .i64 v10))) rfl rfl ?_)
      obtain ⟨c14, h⟩ := gG h
      refine XK.st (some 42) rfl rfl (sf_idxA (l := w0.fLinks) (i := v10) rfl TT.slcA_89 lay_Link rfl rfl c14 ?_)
      refine XK.st (some 43) rfl rfl (sf_fldC rfl TT.fldA_96_1 (by decide) rfl ?_)
      refine XK.st (some 44) rfl rfl (sf_ldC (d := .slice (((idx (w0.fLinks) v10).fProof).map eS)) rfl TT.tyA_94 rfl (LdC.one) ?_)
      refine XK.st (some 45) rfl rfl (sf_lenL (en := eS) (l := (idx (w0.fLinks) v10).fProof) rfl TT.under_94 rfl ?_)
      obtain ⟨c15, h⟩ := gG h
      refine XK.st (some 46) rfl rfl (sf_add (a := v8) (b := (((idx (w0.fLinks) v10).fProof).length : Int)) rfl rfl rfl c15 ?_)
      refine XK.st (some 8) rfl rfl (sf_assign (v := .d (.val (.int .i64 (v8 + (((idx (w0.fLinks) v10).fProof).length : Int))))) rfl rfl ?_)
      refine XK.nil (nrm ?_)
      refine QW.region (Nat.zero_le _) (PW.regT (by kernel_rfl) ?_)
      refine XK.st (some 47) rfl rfl (sf_move (v := .d (.val (.int .i64 v9))) rfl rfl ?_)
      refine XK.st (some 48) rfl rfl (sf_fldC rfl TT.fldA_91_1 (by decide) rfl ?_)
      refine XK.st (some 49) rfl rfl (sf_ldC (d := .slice ((w0.fLinks).map eLink)) rfl TT.tyA_89 rfl (ldc_Witness_1 _) ?_)
      refine XK.st (some 50) rfl rfl (sf_move (v := .d (.val (.int .i64 v10))) rfl rfl ?_)
      obtain ⟨c16, h⟩ := gG h
      refine XK.st (some 51) rfl rfl (sf_idxA (l := w0.fLinks) (i := v10) rfl TT.slcA_89 lay_Link rfl rfl c16 ?_)
      refine XK.st (some 52) rfl rfl (sf_fldC rfl TT.fldA_96_1 (by decide) rfl ?_)
      refine XK.st (some 53) rfl rfl (sf_ldC (d := .slice (((idx (w0.fLinks) v10).fProof).map eS)) rfl TT.tyA_94 rfl (LdC.one) ?_)
      obtain ⟨x17, hx18, h⟩ := bG h
      refine XK.st (some 54) rfl rfl (sf_call rfl rfl TT.enters_30 rfl (sim_ref13_Bytes ((idx (w0.fLinks) v10).fProof) _ hx18) ?_)
      obtain ⟨c19, h⟩ := gG h
      refine XK.st (some 55) rfl rfl (sf_add (a := v9) (b := x17) rfl rfl rfl c19 ?_)
      refine XK.st (some 9) rfl rfl (sf_assign (v := .d (.val (.int .i64 (v9 + x17)))) rfl rfl ?_)
      refine XK.nil (blN (nrm ?_))
      refine QW.view (s' := ⟨tab [(2, .d (.cptr (cWitness w0))), (3, .d (.cptr (cWitness z1))), (5, .d (.val (sV v5_2))), (6, .d (.val (.int .i64 v6_2))), (7, .d (.val (.bool v7_2))), (8, .d (.val (.int .i64 (v8 + (((idx (w0.fLinks) v10).fProof).length : Int))))), (9, .d (.val (.int .i64 (v9 + x17)))), (10, .d (.val (.int .i64 v10)))], tabH [], 0, []⟩) (View.mk 0 [] _ _ _ rfl rfl (by decide) (And.intro (Imp.of_eq rfl) (And.intro (Imp.of_eq rfl) (And.intro (Imp.of_eq rfl) (And.intro (Imp.of_eq rfl) (And.intro (Imp.of_eq rfl) (And.intro (Imp.of_eq rfl) (And.intro (Imp.of_eq rfl) (And.intro (Imp.of_eq rfl) trivial)))))))) trivial rfl (Nat.zero_le _) rfl) (Nat.zero_le _) ?_
      refine QW.region (Nat.zero_le _) (PW.regT (by kernel_rfl) ?_)
      refine XK.st (some 36) rfl rfl (sf_move (v := .d (.val (.int .i64 v10))) rfl rfl ?_)
      obtain ⟨c20, h⟩ := gG h
      refine XK.st (some 37) rfl rfl (sf_add (a := v10) (b := (1 : Int)) rfl rfl rfl c20 ?_)
      refine XK.st (some 10) rfl rfl (sf_assign (v := .d (.val (.int .i64 (v10 + (1 : Int))))) rfl rfl ?_)
      refine XK.nil (nrm ?_)
      exact ⟨k12, by omega, ⟨tab [(2, .d (.cptr (cWitness w0))), (3, .d (.cptr (cWitness z1))), (5, .d (.val (sV v5_2))), (6, .d (.val (.int .i64 v6_2))), (7, .d (.val (.bool v7_2))), (8, .d (.val (.int .i64 (v8 + (((idx (w0.fLinks) v10).fProof).length : Int))))), (9, .d (.val (.int .i64 (v9 + x17)))), (10, .d (.val (.int .i64 (v10 + (1 : Int)))))], tabH [], 0, []⟩, View.mk 0 [] _ _ _ rfl rfl (by decide) (And.intro (Imp.of_eq rfl) (And.intro (Imp.of_eq rfl) (And.intro (Imp.of_eq rfl) (And.intro (Imp.of_eq rfl) (And.intro (Imp.of_eq rfl) (And.intro (Imp.of_eq rfl) (And.intro (Imp.of_eq rfl) (And.intro (Imp.of_eq rfl) trivial)))))))) trivial rfl (Nat.zero_le _) rfl, v5_2, v6_2, v7_2, (v8 + (((idx (w0.fLinks) v10).fProof).length : Int)), (v9 + x17), (v10 + (1 : Int)), by omega, jG h, rfl⟩
    · replace h := bGF h hb13
      refine QW.exit (Nat.zero_le _) (thX (thX (exE (nrm ?_))))
      refine QW.seq ?_
      refine QW.region (Nat.zero_le _) (PW.regT (by kernel_rfl) ?_)
      refine XK.st (some 57) rfl rfl (sf_ldC (d := .agg (cWitness w0)) rfl TT.tyA_91 rfl (⟨by rw [lay_Witness.len]; decide, congrArg D.agg (List.take_of_length_le (by rw [lay_Witness.len]; decide))⟩) ?_)
      obtain ⟨x21, hx22, h⟩ := bG h
      refine XK.st (some 58) rfl rfl (sf_call rfl rfl TT.enters_74 rfl (sim_wire_Size w0 _ hx22) ?_)
      refine XK.st (some 56) rfl rfl (sf_move (v := .d (.tuple [.val (.int .i64 (x21.1)), .val (.int .i64 (x21.2))])) rfl rfl ?_)
      refine XK.st (some 59) rfl rfl (sf_extract rfl rfl rfl ?_)
      refine XK.st (some 60) rfl rfl (sf_extract rfl rfl rfl ?_)
      refine XK.st (some 11) rfl rfl (sf_assign (v := .d (.val (.int .i64 (x21.1)))) rfl rfl ?_)
      refine XK.st (some 12) rfl rfl (sf_assign (v := .d (.val (.int .i64 (x21.2)))) rfl rfl ?_)
      refine XK.nil (nrm ?_)
      refine QW.seq ?_
      refine QW.seq ?_
      refine QW.region (Nat.zero_le _) (PW.regQ (id := 12) mixedX (M := _) rfl (by kernel_rfl) ?_)
      refine RQ.st (some 61) rfl rfl (sf_ldC (d := .agg (cWitness w0)) rfl TT.tyA_91 rfl (⟨by rw [lay_Witness.len]; decide, congrArg D.agg (List.take_of_length_le (by rw [lay_Witness.len]; decide))⟩) ⟨⟨rfl, rfl⟩, ?_⟩)
      obtain ⟨x23, hx24, h⟩ := bG h
      refine RQ.st (some 62) rfl rfl (sf_call rfl rfl TT.enters_75 rfl (sim_wire_Check w0 _ hx24) ⟨⟨rfl, rfl⟩, ?_⟩)
      refine RQ.st (some 63) rfl rfl (sf_eq (a := x23) (b := (0 : Int)) rfl rfl rfl ⟨⟨rfl, rfl⟩, ?_⟩)
      refine RQ.st (some 64) rfl rfl (sf_move (v := .d (.val (.bool v7_2))) rfl rfl ⟨⟨rfl, rfl⟩, ?_⟩)
      refine RQ.st (some 65) rfl rfl (sf_bne (a := (decide (x23 = (0 : Int)))) (b := v7_2) rfl TT.under_4 rfl rfl ⟨⟨rfl, rfl⟩, ?_⟩)
      refine RQ.st (some 66) rfl rfl (sf_move (v := .d (.val (.bool (!((decide (x23 = (0 : Int))) == v7_2))))) rfl rfl ⟨⟨rfl, rfl⟩, ?_⟩)
      refine RQ.gd (v := .d (.val (.int .i64 (x21.1)))) (T := []) (some 67) rfl rfl (by repeat (first | exact trivial | refine And.intro (fun hg => by first | rfl | exact hg | exact (Bool.and_eq_true_iff.mp hg).1 | exact (Bool.and_eq_true_iff.mp (Bool.and_eq_true_iff.mp hg).1).1) ?_)) (fun hg => sf_move (v := .d (.val (.int .i64 (x21.1)))) rfl rfl ⟨⟨rfl, rfl, rfl⟩, rfl, Imp.refl⟩) (fun _ _ hi => nomatch hi) ?_
      refine RQ.gd (v := .d (.val (.int .i64 v8))) (T := []) (some 68) rfl rfl (by repeat (first | exact trivial | refine And.intro (fun hg => by first | rfl | exact hg | exact (Bool.and_eq_true_iff.mp hg).1 | exact (Bool.and_eq_true_iff.mp (Bool.and_eq_true_iff.mp hg).1).1) ?_)) (fun hg => sf_move (v := .d (.val (.int .i64 v8))) rfl rfl ⟨⟨rfl, rfl, rfl⟩, rfl, Imp.refl⟩) (fun _ _ hi => nomatch hi) ?_
      refine RQ.gd (v := .d (.val (.bool (!decide ((x21.1) = v8))))) (T := []) (some 69) rfl rfl (by repeat (first | exact trivial | refine And.intro (fun hg => by first | rfl | exact hg | exact (Bool.and_eq_true_iff.mp hg).1 | exact (Bool.and_eq_true_iff.mp (Bool.and_eq_true_iff.mp hg).1).1) ?_)) (fun hg => sf_ne (a := (x21.1)) (b := v8) rfl rfl rfl ⟨⟨rfl, rfl, rfl⟩, rfl, Imp.refl⟩) (fun _ _ hi => nomatch hi) ?_
      refine RQ.st (some 70) rfl rfl (sf_pickO rfl rfl rfl rfl (fun _ => rfl) (fun hb => by rw [hb]; rfl) ⟨⟨rfl, rfl⟩, ?_⟩)
      refine RQ.st (some 71) rfl rfl (sf_move (v := .d (.val (.bool ((!((decide (x23 = (0 : Int))) == v7_2)) || (!decide ((x21.1) = v8)))))) rfl rfl ⟨⟨rfl, rfl⟩, ?_⟩)
      refine RQ.gd (v := .d (.val (.int .i64 (x21.2)))) (T := []) (some 72) rfl rfl (by repeat (first | exact trivial | refine And.intro (fun hg => by first | rfl | exact hg | exact (Bool.and_eq_true_iff.mp hg).1 | exact (Bool.and_eq_true_iff.mp (Bool.and_eq_true_iff.mp hg).1).1) ?_)) (fun hg => sf_move (v := .d (.val (.int .i64 (x21.2)))) rfl rfl ⟨⟨rfl, rfl, rfl⟩, rfl, Imp.refl⟩) (fun _ _ hi => nomatch hi) ?_
      refine RQ.gd (v := .d (.val (.int .i64 v9))) (T := []) (some 73) rfl rfl (by repeat (first | exact trivial | refine And.intro (fun hg => by first | rfl | exact hg | exact (Bool.and_eq_true_iff.mp hg).1 | exact (Bool.and_eq_true_iff.mp (Bool.and_eq_true_iff.mp hg).1).1) ?_)) (fun hg => sf_move (v := .d (.val (.int .i64 v9))) rfl rfl ⟨⟨rfl, rfl, rfl⟩, rfl, Imp.refl⟩) (fun _ _ hi => nomatch hi) ?_
      refine RQ.gd (v := .d (.val (.bool (!decide ((x21.2) = v9))))) (T := []) (some 74) rfl rfl (by repeat (first | exact trivial | refine And.intro (fun hg => by first | rfl | exact hg | exact (Bool.and_eq_true_iff.mp hg).1 | exact (Bool.and_eq_true_iff.mp (Bool.and_eq_true_iff.mp hg).1).1) ?_)) (fun hg => sf_ne (a := (x21.2)) (b := v9) rfl rfl rfl ⟨⟨rfl, rfl, rfl⟩, rfl, Imp.refl⟩) (fun _ _ hi => nomatch hi) ?_
      refine RQ.st (some 75) rfl rfl (sf_pickO rfl rfl rfl rfl (fun _ => rfl) (fun hb => by rw [hb]; rfl) ⟨⟨rfl, rfl⟩, ?_⟩)
      refine RQ.st (some 76) rfl rfl (sf_move (v := .d (.val (.bool (((!((decide (x23 = (0 : Int))) == v7_2)) || (!decide ((x21.1) = v8))) || (!decide ((x21.2) = v9)))))) rfl rfl ⟨⟨rfl, rfl⟩, ?_⟩)
      refine RQ.gd (v := .d (.agg (cWitness w0))) (T := []) (some 77) rfl rfl (by repeat (first | exact trivial | refine And.intro (fun hg => by first | rfl | exact hg | exact (Bool.and_eq_true_iff.mp hg).1 | exact (Bool.and_eq_true_iff.mp (Bool.and_eq_true_iff.mp hg).1).1) ?_)) (fun hg => sf_ldC (d := .agg (cWitness w0)) rfl TT.tyA_91 rfl (⟨by rw [lay_Witness.len]; decide, congrArg D.agg (List.take_of_length_le (by rw [lay_Witness.len]; decide))⟩) ⟨⟨rfl, rfl, rfl⟩, rfl, Imp.refl⟩) (fun _ _ hi => nomatch hi) ?_
      refine RQ.gd (v := .d (.agg (cWitness z1))) (T := []) (some 78) rfl rfl (by repeat (first | exact trivial | refine And.intro (fun hg => by first | rfl | exact hg | exact (Bool.and_eq_true_iff.mp hg).1 | exact (Bool.and_eq_true_iff.mp (Bool.and_eq_true_iff.mp hg).1).1) ?_)) (fun hg => sf_ldC (d := .agg (cWitness z1)) rfl TT.tyA_91 rfl (⟨by rw [lay_Witness.len]; decide, congrArg D.agg (List.take_of_length_le (by rw [lay_Witness.len]; decide))⟩) ⟨⟨rfl, rfl, rfl⟩, rfl, Imp.refl⟩) (fun _ _ hi => nomatch hi) ?_
      obtain ⟨x25, hx26, h⟩ := bG h
      refine RQ.gd (v := .d (.val (.bool x25))) (T := []) (some 79) rfl rfl (by repeat (first | exact trivial | refine And.intro (fun hg => by first | rfl | exact hg | exact (Bool.and_eq_true_iff.mp hg).1 | exact (Bool.and_eq_true_iff.mp (Bool.and_eq_true_iff.mp hg).1).1) ?_)) (fun hg => sf_call rfl rfl TT.enters_76 rfl (sim_wire_Same w0 z1 _ (bT hx26 hg)) ⟨⟨rfl, rfl, rfl⟩, rfl, Imp.refl⟩) (fun _ _ hi => nomatch hi) ?_
      refine RQ.gd (v := .d (.agg (cWitness w0))) (T := []) (some 80) rfl rfl (by repeat (first | exact trivial | refine And.intro (fun hg => by first | rfl | exact hg | exact (Bool.and_eq_true_iff.mp hg).1 | exact (Bool.and_eq_true_iff.mp (Bool.and_eq_true_iff.mp hg).1).1) ?_)) (fun hg => sf_ldC (d := .agg (cWitness w0)) rfl TT.tyA_91 rfl (⟨by rw [lay_Witness.len]; decide, congrArg D.agg (List.take_of_length_le (by rw [lay_Witness.len]; decide))⟩) ⟨⟨rfl, rfl, rfl⟩, rfl, Imp.refl⟩) (fun _ _ hi => nomatch hi) ?_
      refine RQ.gd (v := .d (.agg (cWitness z1))) (T := []) (some 81) rfl rfl (by repeat (first | exact trivial | refine And.intro (fun hg => by first | rfl | exact hg | exact (Bool.and_eq_true_iff.mp hg).1 | exact (Bool.and_eq_true_iff.mp (Bool.and_eq_true_iff.mp hg).1).1) ?_)) (fun hg => sf_ldC (d := .agg (cWitness z1)) rfl TT.tyA_91 rfl (⟨by rw [lay_Witness.len]; decide, congrArg D.agg (List.take_of_length_le (by rw [lay_Witness.len]; decide))⟩) ⟨⟨rfl, rfl, rfl⟩, rfl, Imp.refl⟩) (fun _ _ hi => nomatch hi) ?_
      obtain ⟨x27, hx28, h⟩ := bG h
      refine RQ.gd (v := .d (.val (.bool x27))) (T := []) (some 82) rfl rfl (by repeat (first | exact trivial | refine And.intro (fun hg => by first | rfl | exact hg | exact (Bool.and_eq_true_iff.mp hg).1 | exact (Bool.and_eq_true_iff.mp (Bool.and_eq_true_iff.mp hg).1).1) ?_)) (fun hg => sf_call rfl rfl TT.enters_77 rfl (sim_ref15_Same w0 z1 _ (bT hx28 hg)) ⟨⟨rfl, rfl, rfl⟩, rfl, Imp.refl⟩) (fun _ _ hi => nomatch hi) ?_
      refine RQ.gd (v := .d (.val (.bool (!(x25 == x27))))) (T := []) (some 83) rfl rfl (by repeat (first | exact trivial | refine And.intro (fun hg => by first | rfl | exact hg | exact (Bool.and_eq_true_iff.mp hg).1 | exact (Bool.and_eq_true_iff.mp (Bool.and_eq_true_iff.mp hg).1).1) ?_)) (fun hg => sf_bne (a := x25) (b := x27) rfl TT.under_4 rfl rfl ⟨⟨rfl, rfl, rfl⟩, rfl, Imp.refl⟩) (fun _ _ hi => nomatch hi) ?_
      refine RQ.st (some 84) rfl rfl (sf_pickO rfl rfl rfl rfl (fun _ => rfl) (fun hb => by rw [hb]; rfl) ⟨⟨rfl, rfl⟩, ?_⟩)
      refine RQ.nil (nrm ?_)
      refine QW.cond (t := ((((!((decide (x23 = (0 : Int))) == v7_2)) || (!decide ((x21.1) = v8))) || (!decide ((x21.2) = v9))) || (!(x25 == x27)))) rfl (Nat.zero_le _) (fun hb29 => ?_) (fun hb29 => ?_)
      · replace h := bGT h hb29
        refine QW.seq ?_
        refine QW.region (Nat.zero_le _) (PW.regT (by kernel_rfl) ?_)
        refine XK.st (some 4) rfl rfl (sf_assign (v := .d (.val (.bool false))) rfl rfl ?_)
        refine XK.nil (nrm ?_)
        refine QW.ret (Nat.zero_le _) (thR ?_)
        obtain rfl := sG h
        exact Ends.one (.inr rfl) rfl (ResIs.tmp rfl) rfl rfl
      · replace h := bGF h hb29
        refine QW.skip (Nat.zero_le _) (nrm ?_)
        refine QW.seq ?_
        refine QW.seq ?_
        refine QW.region (Nat.zero_le _) (PW.regT (by kernel_rfl) ?_)
        refine XK.st (some 85) rfl rfl (sf_move (v := .d (.val (.bool v7_2))) rfl rfl ?_)
        refine XK.st (some 86) rfl rfl (sf_not rfl rfl ?_)
        refine XK.nil (nrm ?_)
        refine QW.cond (t := (!v7_2)) rfl (Nat.zero_le _) (fun hb30 => ?_) (fun hb30 => ?_)
        · replace h := bGT h hb30
          refine QW.seq ?_
          refine QW.region (Nat.zero_le _) (PW.regT (by kernel_rfl) ?_)
          obtain ⟨x31, hx32, h⟩ := bG h
          refine XK.st (some 87) rfl rfl (sf_call rfl rfl TT.enters_71 rfl (sim_law15_awake  _ hx32) ?_)
          refine XK.st (some 88) rfl rfl (sf_move (v := .d (.val (.bool x31))) rfl rfl ?_)
          refine XK.gd (v := .d (.val (sV v5_2))) (T := []) (some 89) rfl rfl (by repeat (first | exact trivial | refine And.intro (fun hg => by first | rfl | exact hg | exact (Bool.and_eq_true_iff.mp hg).1 | exact (Bool.and_eq_true_iff.mp (Bool.and_eq_true_iff.mp hg).1).1) ?_)) (fun hg => sf_move (v := .d (.val (sV v5_2))) rfl rfl ⟨⟨rfl, rfl, rfl⟩, rfl, Imp.refl⟩) (fun _ _ hi => nomatch hi) ?_
          refine XK.gd (v := .d (.val (.bool (v5_2 == ([] : List UInt8))))) (T := []) (some 90) rfl rfl (by repeat (first | exact trivial | refine And.intro (fun hg => by first | rfl | exact hg | exact (Bool.and_eq_true_iff.mp hg).1 | exact (Bool.and_eq_true_iff.mp (Bool.and_eq_true_iff.mp hg).1).1) ?_)) (fun hg => sf_seq (a := v5_2) (b := ([] : List UInt8)) rfl rfl rfl ⟨⟨rfl, rfl, rfl⟩, rfl, Imp.refl⟩) (fun _ _ hi => nomatch hi) ?_
          refine XK.st (some 91) rfl rfl (sf_pickA rfl rfl rfl rfl (fun hb => by rw [hb]; rfl) (fun _ => rfl) ?_)
          refine XK.st (some 92) rfl rfl (sf_move (v := .d (.val (.bool (x31 && (v5_2 == ([] : List UInt8)))))) rfl rfl ?_)
          refine XK.gd (v := .d (.val (.int .i64 v6_2))) (T := []) (some 93) rfl rfl (by repeat (first | exact trivial | refine And.intro (fun hg => by first | rfl | exact hg | exact (Bool.and_eq_true_iff.mp hg).1 | exact (Bool.and_eq_true_iff.mp (Bool.and_eq_true_iff.mp hg).1).1) ?_)) (fun hg => sf_move (v := .d (.val (.int .i64 v6_2))) rfl rfl ⟨⟨rfl, rfl, rfl⟩, rfl, Imp.refl⟩) (fun _ _ hi => nomatch hi) ?_
          refine XK.gd (v := .d (.val (.bool (decide (v6_2 = (2 : Int)))))) (T := []) (some 94) rfl rfl (by repeat (first | exact trivial | refine And.intro (fun hg => by first | rfl | exact hg | exact (Bool.and_eq_true_iff.mp hg).1 | exact (Bool.and_eq_true_iff.mp (Bool.and_eq_true_iff.mp hg).1).1) ?_)) (fun hg => sf_eq (a := v6_2) (b := (2 : Int)) rfl rfl rfl ⟨⟨rfl, rfl, rfl⟩, rfl, Imp.refl⟩) (fun _ _ hi => nomatch hi) ?_
          refine XK.st (some 95) rfl rfl (sf_pickA rfl rfl rfl rfl (fun hb => by rw [hb]; rfl) (fun _ => rfl) ?_)
          refine XK.st (some 4) rfl rfl (sf_assign (v := .d (.val (.bool ((x31 && (v5_2 == ([] : List UInt8))) && (decide (v6_2 = (2 : Int))))))) rfl rfl ?_)
          refine XK.nil (nrm ?_)
          refine QW.ret (Nat.zero_le _) (thR ?_)
          obtain rfl := sG h
          exact Ends.one (.inr rfl) rfl (ResIs.tmp rfl) rfl rfl
        · replace h := bGF h hb30
          refine QW.skip (Nat.zero_le _) (nrm ?_)
          refine QW.seq ?_
          refine QW.region (Nat.zero_le _) (PW.regT (by kernel_rfl) ?_)
          refine XK.st (some 97) rfl rfl (sf_move (v := .d (.val (sV v5_2))) rfl rfl ?_)
          obtain ⟨x33, hx34, h⟩ := bG h
          refine XK.st (some 98) rfl rfl (sf_call rfl rfl TT.enters_78 rfl (sim_wire_Get v5_2 _ hx34) ?_)
          refine XK.st (some 96) rfl rfl (sf_move (v := .d (.tuple [.agg (cWitness (x33.1)), .val (.int .i64 (x33.2))])) rfl rfl ?_)
          refine XK.st (some 99) rfl rfl (sf_extract rfl rfl rfl ?_)
          refine XK.st (some 100) rfl rfl (sf_extract rfl rfl rfl ?_)
          refine XK.st (some 13) rfl rfl (sf_alloc (l := ((((Arr.rep 32 (0 : UInt8)).1.map byteD).map PV.d) ++ ([.full (([] : (List Link)).map eLink)]))) rfl TT.zeroA_91 rfl rfl ?_)
          refine XK.st none rfl rfl (sf_stV (c := (((((x33.1).fKey).1.map byteD).map PV.d) ++ ([.d (.slice (((x33.1).fLinks).map eLink))]))) (l' := (((((x33.1).fKey).1.map byteD).map PV.d) ++ ([.d (.slice (((x33.1).fLinks).map eLink))]))) rfl TT.tyA_91 rfl rfl rfl rfl (show (cWitness (x33.1)).map PV.d = _ by simp only [cWitness, List.map_append]; rfl) (len_app (b := 1) (len_map2 _) rfl rfl) (le_of_len (len_app (b := 1) (len_map2 _) rfl rfl) (Nat.le_of_ble_eq_true rfl)) (spl_same ((len_app (b := 1) (len_map2 _) rfl rfl).trans (len_app (b := 1) (len_map2 _) rfl rfl).symm)) ?_)
          refine XK.st (some 14) rfl rfl (sf_assign (v := .d (.val (.int .i64 (x33.2)))) rfl rfl ?_)
          refine XK.nil (nrm ?_)
          refine QW.seq ?_
          refine QW.region (Nat.zero_le _) (PW.regT (by kernel_rfl) ?_)
          obtain ⟨x35, hx36, h⟩ := bG h
          refine XK.st (some 101) rfl rfl (sf_call rfl rfl TT.enters_71 rfl (sim_law15_awake  _ hx36) ?_)
          refine XK.st (some 102) rfl rfl (sf_move (v := .d (.val (.bool x35))) rfl rfl ?_)
          refine XK.gd (v := .d (.val (.int .i64 v6_2))) (T := []) (some 103) rfl rfl (by repeat (first | exact trivial | refine And.intro (fun hg => by first | rfl | exact hg | exact (Bool.and_eq_true_iff.mp hg).1 | exact (Bool.and_eq_true_iff.mp (Bool.and_eq_true_iff.mp hg).1).1) ?_)) (fun hg => sf_move (v := .d (.val (.int .i64 v6_2))) rfl rfl ⟨⟨rfl, rfl, rfl⟩, rfl, Imp.refl⟩) (fun _ _ hi => nomatch hi) ?_
          refine XK.gd (v := .d (.val (.bool (decide (v6_2 = (0 : Int)))))) (T := []) (some 104) rfl rfl (by repeat (first | exact trivial | refine And.intro (fun hg => by first | rfl | exact hg | exact (Bool.and_eq_true_iff.mp hg).1 | exact (Bool.and_eq_true_iff.mp (Bool.and_eq_true_iff.mp hg).1).1) ?_)) (fun hg => sf_eq (a := v6_2) (b := (0 : Int)) rfl rfl rfl ⟨⟨rfl, rfl, rfl⟩, rfl, Imp.refl⟩) (fun _ _ hi => nomatch hi) ?_
          refine XK.st (some 105) rfl rfl (sf_pickA rfl rfl rfl rfl (fun hb => by rw [hb]; rfl) (fun _ => rfl) ?_)
          refine XK.st (some 106) rfl rfl (sf_move (v := .d (.val (.bool (x35 && (decide (v6_2 = (0 : Int))))))) rfl rfl ?_)
          refine XK.gd (v := .d (.val (sV v5_2))) (T := []) (some 107) rfl rfl (by repeat (first | exact trivial | refine And.intro (fun hg => by first | rfl | exact hg | exact (Bool.and_eq_true_iff.mp hg).1 | exact (Bool.and_eq_true_iff.mp (Bool.and_eq_true_iff.mp hg).1).1) ?_)) (fun hg => sf_move (v := .d (.val (sV v5_2))) rfl rfl ⟨⟨rfl, rfl, rfl⟩, rfl, Imp.refl⟩) (fun _ _ hi => nomatch hi) ?_
          refine XK.gd (v := .d (.agg (cWitness w0))) (T := []) (some 108) rfl rfl (by repeat (first | exact trivial | refine And.intro (fun hg => by first | rfl | exact hg | exact (Bool.and_eq_true_iff.mp hg).1 | exact (Bool.and_eq_true_iff.mp (Bool.and_eq_true_iff.mp hg).1).1) ?_)) (fun hg => sf_ldC (d := .agg (cWitness w0)) rfl TT.tyA_91 rfl (⟨by rw [lay_Witness.len]; decide, congrArg D.agg (List.take_of_length_le (by rw [lay_Witness.len]; decide))⟩) ⟨⟨rfl, rfl, rfl⟩, rfl, Imp.refl⟩) (fun _ _ hi => nomatch hi) ?_
          obtain ⟨x37, hx38, h⟩ := bG h
          refine XK.gd (v := .d (.agg (cItem x37))) (T := []) (some 109) rfl rfl (by repeat (first | exact trivial | refine And.intro (fun hg => by first | rfl | exact hg | exact (Bool.and_eq_true_iff.mp hg).1 | exact (Bool.and_eq_true_iff.mp (Bool.and_eq_true_iff.mp hg).1).1) ?_)) (fun hg => sf_call rfl rfl TT.enters_80 rfl (sim_ref15_Item w0 _ (bT hx38 hg)) ⟨⟨rfl, rfl, rfl⟩, rfl, Imp.refl⟩) (fun _ _ hi => nomatch hi) ?_
          obtain ⟨x39, hx40, h⟩ := bG h
          refine XK.gd (v := .d (.val (sV x39))) (T := []) (some 110) rfl rfl (by repeat (first | exact trivial | refine And.intro (fun hg => by first | rfl | exact hg | exact (Bool.and_eq_true_iff.mp hg).1 | exact (Bool.and_eq_true_iff.mp (Bool.and_eq_true_iff.mp hg).1).1) ?_)) (fun hg => sf_call rfl rfl TT.enters_79 rfl (sim_ref05_Put x37 _ (bT hx40 hg)) ⟨⟨rfl, rfl, rfl⟩, rfl, Imp.refl⟩) (fun _ _ hi => nomatch hi) ?_
          refine XK.gd (v := .d (.val (.bool (v5_2 == x39)))) (T := []) (some 111) rfl rfl (by repeat (first | exact trivial | refine And.intro (fun hg => by first | rfl | exact hg | exact (Bool.and_eq_true_iff.mp hg).1 | exact (Bool.and_eq_true_iff.mp (Bool.and_eq_true_iff.mp hg).1).1) ?_)) (fun hg => sf_seq (a := v5_2) (b := x39) rfl rfl rfl ⟨⟨rfl, rfl, rfl⟩, rfl, Imp.refl⟩) (fun _ _ hi => nomatch hi) ?_
          refine XK.st (some 112) rfl rfl (sf_pickA rfl rfl rfl rfl (fun hb => by rw [hb]; rfl) (fun _ => rfl) ?_)
          refine XK.st (some 113) rfl rfl (sf_move (v := .d (.val (.bool ((x35 && (decide (v6_2 = (0 : Int)))) && (v5_2 == x39))))) rfl rfl ?_)
          refine XK.gd (v := .d (.val (.int .i64 (x33.2)))) (T := []) (some 114) rfl rfl (by repeat (first | exact trivial | refine And.intro (fun hg => by first | rfl | exact hg | exact (Bool.and_eq_true_iff.mp hg).1 | exact (Bool.and_eq_true_iff.mp (Bool.and_eq_true_iff.mp hg).1).1) ?_)) (fun hg => sf_move (v := .d (.val (.int .i64 (x33.2)))) rfl rfl ⟨⟨rfl, rfl, rfl⟩, rfl, Imp.refl⟩) (fun _ _ hi => nomatch hi) ?_
          refine XK.gd (v := .d (.val (.bool (decide ((x33.2) = (0 : Int)))))) (T := []) (some 115) rfl rfl (by repeat (first | exact trivial | refine And.intro (fun hg => by first | rfl | exact hg | exact (Bool.and_eq_true_iff.mp hg).1 | exact (Bool.and_eq_true_iff.mp (Bool.and_eq_true_iff.mp hg).1).1) ?_)) (fun hg => sf_eq (a := (x33.2)) (b := (0 : Int)) rfl rfl rfl ⟨⟨rfl, rfl, rfl⟩, rfl, Imp.refl⟩) (fun _ _ hi => nomatch hi) ?_
          refine XK.st (some 116) rfl rfl (sf_pickA rfl rfl rfl rfl (fun hb => by rw [hb]; rfl) (fun _ => rfl) ?_)
          refine XK.st (some 117) rfl rfl (sf_move (v := .d (.val (.bool (((x35 && (decide (v6_2 = (0 : Int)))) && (v5_2 == x39)) && (decide ((x33.2) = (0 : Int))))))) rfl rfl ?_)
          refine XK.gd (v := .d (.agg (cWitness (x33.1)))) (T := [0]) (some 118) rfl rfl (by repeat (first | exact trivial | refine And.intro (fun hg => by first | rfl | exact hg | exact (Bool.and_eq_true_iff.mp hg).1 | exact (Bool.and_eq_true_iff.mp (Bool.and_eq_true_iff.mp hg).1).1) ?_)) (fun hg => sf_ldV (v := .agg (((((x33.1).fKey).1.map byteD).map PV.d) ++ ([.d (.slice (((x33.1).fLinks).map eLink))]))) rfl TT.tyA_91 rfl rfl (ldv_whole (len_app (b := 1) (len_map2 _) rfl rfl) (by decide)) ⟨⟨rfl, rfl, rfl⟩, rfl, (Imp.toD (toD_agg (toDs_app toDs_map rfl)))⟩) (fun _ i hi => by simp only [List.mem_singleton] at hi; subst hi; decide) ?_
          refine XK.gd (v := .d (.agg (cWitness w0))) (T := []) (some 119) rfl rfl (by repeat (first | exact trivial | refine And.intro (fun hg => by first | rfl | exact hg | exact (Bool.and_eq_true_iff.mp hg).1 | exact (Bool.and_eq_true_iff.mp (Bool.and_eq_true_iff.mp hg).1).1) ?_)) (fun hg => sf_ldC (d := .agg (cWitness w0)) rfl TT.tyA_91 rfl (⟨by rw [lay_Witness.len]; decide, congrArg D.agg (List.take_of_length_le (by rw [lay_Witness.len]; decide))⟩) ⟨⟨rfl, rfl, rfl⟩, rfl, Imp.refl⟩) (fun _ _ hi => nomatch hi) ?_
          obtain ⟨x41, hx42, h⟩ := bG h
          refine XK.gd (v := .d (.val (.bool x41))) (T := []) (some 120) rfl rfl (by repeat (first | exact trivial | refine And.intro (fun hg => by first | rfl | exact hg | exact (Bool.and_eq_true_iff.mp hg).1 | exact (Bool.and_eq_true_iff.mp (Bool.and_eq_true_iff.mp hg).1).1) ?_)) (fun hg => sf_call rfl rfl TT.enters_77 rfl (sim_ref15_Same (x33.1) w0 _ (bT hx42 hg)) ⟨⟨rfl, rfl, rfl⟩, rfl, Imp.refl⟩) (fun _ _ hi => nomatch hi) ?_
          refine XK.st (some 121) rfl rfl (sf_pickA rfl rfl rfl rfl (fun hb => by rw [hb]; rfl) (fun _ => rfl) ?_)
          refine XK.st (some 4) rfl rfl (sf_assign (v := .d (.val (.bool ((((x35 && (decide (v6_2 = (0 : Int)))) && (v5_2 == x39)) && (decide ((x33.2) = (0 : Int)))) && x41)))) rfl rfl ?_)
          refine XK.nil (nrm ?_)
          refine QW.ret (Nat.zero_le _) ?_
          obtain rfl := sG h
          exact Ends.one (.inr rfl) rfl (ResIs.tmp rfl) rfl rfl

noncomputable def g_law15_WireGets (s0 : (List UInt8)) : Option Bool :=
    (bif (decide ((5000 : Int) < (s0.length : Int))) then
    ((g_law15_awake ).bind fun (x2 : Bool) =>
    some x2)
    else
    ((g_wire_Get s0).bind fun (x4 : (Witness × Int)) =>
    (bif (!decide ((x4.2) = (0 : Int))) then
    ((g_ref05_Read s0 (0) (4096)).bind fun (x7 : (Item × Int × Int × Int)) =>
    ((g_law15_awake ).bind fun (x9 : Bool) =>
    ((bif (x9 == true) then g_ref15_Same (x4.1) (⟨(Arr.rep 32 (0 : UInt8)), ([] : (List Link))⟩ : Witness) else some default).bind fun (x11 : Bool) =>
    some ((x9 && x11) && (((decide ((x7.2.2.2) = (0 : Int))) && (decide ((x4.2) = (6 : Int)))) || ((!decide ((x7.2.2.2) = (0 : Int))) && (decide ((x4.2) = (x7.2.2.2)))))))))
    else
    ((g_law15_awake ).bind fun (x13 : Bool) =>
    ((bif (x13 == true) then g_ref15_May (x4.1) else some default).bind fun (x15 : Bool) =>
    ((bif ((x13 && x15) == true) then g_ref15_Item (x4.1) else some default).bind fun (x17 : Item) =>
    ((bif ((x13 && x15) == true) then g_ref05_Put x17 else some default).bind fun (x19 : (List UInt8)) =>
    some ((x13 && x15) && (x19 == s0)))))))))

set_option maxRecDepth 20000 in
set_option maxHeartbeats 4000000 in
theorem sim_law15_WireGets (s0 : (List UInt8)) (r : Bool) (h : g_law15_WireGets s0 = some r) : Fun Try.prog 13 [.val (sV s0)] (.val (.bool r)) := by
  refine Fun.of_bodyQ Try.func13 rfl (by simp [Try.ntmps13]) ?_
  rw [Try.ntmps13, TT.res_13]
  refine QW.view (s' := ⟨tab [(0, .d (.val (sV s0)))], tabH [], 0, []⟩) (View.init (by rfl)) (Nat.zero_le _) ?_
  unfold g_law15_WireGets at h
  refine QW.seq ?_
  refine QW.region (Nat.zero_le _) (PW.regT (by kernel_rfl) ?_)
  refine XK.st (some 2) rfl rfl (sf_assign (v := .d (.val (.bool false))) rfl rfl ?_)
  refine XK.nil (nrm ?_)
  refine QW.seq ?_
  refine QW.seq ?_
  refine QW.region (Nat.zero_le _) (PW.regT (by kernel_rfl) ?_)
  refine XK.st (some 9) rfl rfl (sf_move (v := .d (.val (sV s0))) rfl rfl ?_)
  refine XK.st (some 10) rfl rfl (sf_lenS (l := s0) rfl TT.under_9 rfl ?_)
  refine XK.st (some 11) rfl rfl (sf_gtr (a := (s0.length : Int)) (b := (5000 : Int)) rfl rfl rfl ?_)
  refine XK.nil (nrm ?_)
  refine QW.cond (t := (decide ((5000 : Int) < (s0.length : Int)))) rfl (Nat.zero_le _) (fun hb1 => ?_) (fun hb1 => ?_)
  · replace h := bT h hb1
    refine QW.seq ?_
    refine QW.region (Nat.zero_le _) (PW.regT (by kernel_rfl) ?_)
    obtain ⟨x2, hx3, h⟩ := bO h
    refine XK.st (some 12) rfl rfl (sf_call rfl rfl TT.enters_71 rfl (sim_law15_awake  _ hx3) ?_)
    refine XK.st (some 2) rfl rfl (sf_assign (v := .d (.val (.bool x2))) rfl rfl ?_)
    refine XK.nil (nrm ?_)
    refine QW.ret (Nat.zero_le _) (thR ?_)
    obtain rfl := sO h
    exact Ends.one (.inr rfl) rfl (ResIs.tmp rfl) rfl rfl
  · replace h := bF h hb1
    refine QW.skip (Nat.zero_le _) (nrm ?_)
    refine QW.seq ?_
    refine QW.region (Nat.zero_le _) (PW.regT (by kernel_rfl) ?_)
    refine XK.st (some 14) rfl rfl (sf_move (v := .d (.val (sV s0))) rfl rfl ?_)
    obtain ⟨x4, hx5, h⟩ := bO h
    refine XK.st (some 15) rfl rfl (sf_call rfl rfl TT.enters_78 rfl (sim_wire_Get s0 _ hx5) ?_)
    refine XK.st (some 13) rfl rfl (sf_move (v := .d (.tuple [.agg (cWitness (x4.1)), .val (.int .i64 (x4.2))])) rfl rfl ?_)
    refine XK.st (some 16) rfl rfl (sf_extract rfl rfl rfl ?_)
    refine XK.st (some 17) rfl rfl (sf_extract rfl rfl rfl ?_)
    refine XK.st (some 3) rfl rfl (sf_alloc (l := ((((Arr.rep 32 (0 : UInt8)).1.map byteD).map PV.d) ++ ([.full (([] : (List Link)).map eLink)]))) rfl TT.zeroA_91 rfl rfl ?_)
    refine XK.st none rfl rfl (sf_stV (c := (((((x4.1).fKey).1.map byteD).map PV.d) ++ ([.d (.slice (((x4.1).fLinks).map eLink))]))) (l' := (((((x4.1).fKey).1.map byteD).map PV.d) ++ ([.d (.slice (((x4.1).fLinks).map eLink))]))) rfl TT.tyA_91 rfl rfl rfl rfl (show (cWitness (x4.1)).map PV.d = _ by simp only [cWitness, List.map_append]; rfl) (len_app (b := 1) (len_map2 _) rfl rfl) (le_of_len (len_app (b := 1) (len_map2 _) rfl rfl) (Nat.le_of_ble_eq_true rfl)) (spl_same ((len_app (b := 1) (len_map2 _) rfl rfl).trans (len_app (b := 1) (len_map2 _) rfl rfl).symm)) ?_)
    refine XK.st (some 4) rfl rfl (sf_assign (v := .d (.val (.int .i64 (x4.2)))) rfl rfl ?_)
    refine XK.nil (nrm ?_)
    refine QW.seq ?_
    refine QW.seq ?_
    refine QW.region (Nat.zero_le _) (PW.regT (by kernel_rfl) ?_)
    refine XK.st (some 18) rfl rfl (sf_move (v := .d (.val (.int .i64 (x4.2)))) rfl rfl ?_)
    refine XK.st (some 19) rfl rfl (sf_ne (a := (x4.2)) (b := (0 : Int)) rfl rfl rfl ?_)
    refine XK.nil (nrm ?_)
    refine QW.cond (t := (!decide ((x4.2) = (0 : Int)))) rfl (Nat.zero_le _) (fun hb6 => ?_) (fun hb6 => ?_)
    · replace h := bT h hb6
      refine QW.seq ?_
      refine QW.region (Nat.zero_le _) (PW.regT (by kernel_rfl) ?_)
      refine XK.st (some 21) rfl rfl (sf_move (v := .d (.val (sV s0))) rfl rfl ?_)
      obtain ⟨x7, hx8, h⟩ := bO h
      refine XK.st (some 22) rfl rfl (sf_call rfl rfl TT.enters_81 rfl (sim_ref05_Read s0 (0) (4096) _ hx8) ?_)
      refine XK.st (some 20) rfl rfl (sf_move (v := .d (.tuple [.agg (cItem (x7.1)), .val (.int .i64 (x7.2.1)), .val (.int .i64 (x7.2.2.1)), .val (.int .i64 (x7.2.2.2))])) rfl rfl ?_)
      refine XK.st (some 23) rfl rfl (sf_extract rfl rfl rfl ?_)
      refine XK.st (some 24) rfl rfl (sf_extract rfl rfl rfl ?_)
      refine XK.st (some 25) rfl rfl (sf_extract rfl rfl rfl ?_)
      refine XK.st (some 26) rfl rfl (sf_extract rfl rfl rfl ?_)
      refine XK.st (some 5) rfl rfl (sf_alloc (l := [.d (.val (.bool false)), .d (.val (sV ([] : List UInt8))), .full (([] : (List Item)).map eItem)]) rfl TT.zeroA_80 rfl rfl ?_)
      refine XK.st none rfl rfl (sf_stV (l' := [.d (.val (.bool ((x7.1).fList))), .d (.val (sV ((x7.1).fS))), .d (.slice (((x7.1).fL).map eItem))]) rfl TT.tyA_80 rfl rfl rfl rfl rfl rfl (by simp) rfl ?_)
      refine XK.st (some 6) rfl rfl (sf_assign (v := .d (.val (.int .i64 (x7.2.1)))) rfl rfl ?_)
      refine XK.st (some 7) rfl rfl (sf_assign (v := .d (.val (.int .i64 (x7.2.2.1)))) rfl rfl ?_)
      refine XK.st (some 8) rfl rfl (sf_assign (v := .d (.val (.int .i64 (x7.2.2.2)))) rfl rfl ?_)
      refine XK.nil (nrm ?_)
      refine QW.seq ?_
      refine QW.region (Nat.zero_le _) (PW.regT (by kernel_rfl) ?_)
      obtain ⟨x9, hx10, h⟩ := bO h
      refine XK.st (some 27) rfl rfl (sf_call rfl rfl TT.enters_71 rfl (sim_law15_awake  _ hx10) ?_)
      refine XK.st (some 28) rfl rfl (sf_move (v := .d (.val (.bool x9))) rfl rfl ?_)
      refine XK.gd (v := .d (.agg (cWitness (x4.1)))) (T := [0]) (some 29) rfl rfl (by repeat (first | exact trivial | refine And.intro (fun hg => by first | rfl | exact hg | exact (Bool.and_eq_true_iff.mp hg).1 | exact (Bool.and_eq_true_iff.mp (Bool.and_eq_true_iff.mp hg).1).1) ?_)) (fun hg => sf_ldV (v := .agg (((((x4.1).fKey).1.map byteD).map PV.d) ++ ([.d (.slice (((x4.1).fLinks).map eLink))]))) rfl TT.tyA_91 rfl rfl (ldv_whole (len_app (b := 1) (len_map2 _) rfl rfl) (by decide)) ⟨⟨rfl, rfl, rfl⟩, rfl, (Imp.toD (toD_agg (toDs_app toDs_map rfl)))⟩) (fun _ i hi => by simp only [List.mem_singleton] at hi; subst hi; decide) ?_
      refine XK.gd (v := .agg ((((Arr.rep 32 (0 : UInt8)).1.map byteD).map PV.d) ++ ([.full (([] : (List Link)).map eLink)]))) (T := []) (some 30) rfl rfl (by repeat (first | exact trivial | refine And.intro (fun hg => by first | rfl | exact hg | exact (Bool.and_eq_true_iff.mp hg).1 | exact (Bool.and_eq_true_iff.mp (Bool.and_eq_true_iff.mp hg).1).1) ?_)) (fun hg => sf_bld (v := .agg ((((Arr.rep 32 (0 : UInt8)).1.map byteD).map PV.d) ++ ([.full (([] : (List Link)).map eLink)]))) rfl TT.bldA_91 (build_of rfl fill_nil) ⟨⟨rfl, rfl, rfl⟩, rfl, Imp.refl⟩) (fun _ _ hi => nomatch hi) ?_
      obtain ⟨x11, hx12, h⟩ := bO h
      refine XK.gd (v := .d (.val (.bool x11))) (T := []) (some 31) rfl rfl (by repeat (first | exact trivial | refine And.intro (fun hg => by first | rfl | exact hg | exact (Bool.and_eq_true_iff.mp hg).1 | exact (Bool.and_eq_true_iff.mp (Bool.and_eq_true_iff.mp hg).1).1) ?_)) (fun hg => sf_call rfl rfl TT.enters_77 rfl (sim_ref15_Same (x4.1) (⟨(Arr.rep 32 (0 : UInt8)), ([] : (List Link))⟩ : Witness) _ (bT hx12 hg)) ⟨⟨rfl, rfl, rfl⟩, rfl, Imp.refl⟩) (fun _ _ hi => nomatch hi) ?_
      refine XK.st (some 32) rfl rfl (sf_pickA rfl rfl rfl rfl (fun hb => by rw [hb]; rfl) (fun _ => rfl) ?_)
      refine XK.st (some 33) rfl rfl (sf_move (v := .d (.val (.bool (x9 && x11)))) rfl rfl ?_)
      refine XK.gd (v := .d (.val (.int .i64 (x7.2.2.2)))) (T := []) (some 34) rfl rfl (by repeat (first | exact trivial | refine And.intro (fun hg => by first | rfl | exact hg | exact (Bool.and_eq_true_iff.mp hg).1 | exact (Bool.and_eq_true_iff.mp (Bool.and_eq_true_iff.mp hg).1).1) ?_)) (fun hg => sf_move (v := .d (.val (.int .i64 (x7.2.2.2)))) rfl rfl ⟨⟨rfl, rfl, rfl⟩, rfl, Imp.refl⟩) (fun _ _ hi => nomatch hi) ?_
      refine XK.gd (v := .d (.val (.bool (decide ((x7.2.2.2) = (0 : Int)))))) (T := []) (some 35) rfl rfl (by repeat (first | exact trivial | refine And.intro (fun hg => by first | rfl | exact hg | exact (Bool.and_eq_true_iff.mp hg).1 | exact (Bool.and_eq_true_iff.mp (Bool.and_eq_true_iff.mp hg).1).1) ?_)) (fun hg => sf_eq (a := (x7.2.2.2)) (b := (0 : Int)) rfl rfl rfl ⟨⟨rfl, rfl, rfl⟩, rfl, Imp.refl⟩) (fun _ _ hi => nomatch hi) ?_
      refine XK.gd (v := .d (.val (.bool (decide ((x7.2.2.2) = (0 : Int)))))) (T := []) (some 36) rfl rfl (by repeat (first | exact trivial | refine And.intro (fun hg => by first | rfl | exact hg | exact (Bool.and_eq_true_iff.mp hg).1 | exact (Bool.and_eq_true_iff.mp (Bool.and_eq_true_iff.mp hg).1).1) ?_)) (fun hg => sf_move (v := .d (.val (.bool (decide ((x7.2.2.2) = (0 : Int)))))) rfl rfl ⟨⟨rfl, rfl, rfl⟩, rfl, Imp.refl⟩) (fun _ _ hi => nomatch hi) ?_
      refine XK.gd (v := .d (.val (.int .i64 (x4.2)))) (T := []) (some 37) rfl rfl (by repeat (first | exact trivial | refine And.intro (fun hg => by first | rfl | exact hg | exact (Bool.and_eq_true_iff.mp hg).1 | exact (Bool.and_eq_true_iff.mp (Bool.and_eq_true_iff.mp hg).1).1) ?_)) (fun hg => sf_move (v := .d (.val (.int .i64 (x4.2)))) rfl rfl ⟨⟨rfl, rfl, rfl⟩, rfl, Imp.refl⟩) (fun _ _ hi => nomatch hi) ?_
      refine XK.gd (v := .d (.val (.bool (decide ((x4.2) = (6 : Int)))))) (T := []) (some 38) rfl rfl (by repeat (first | exact trivial | refine And.intro (fun hg => by first | rfl | exact hg | exact (Bool.and_eq_true_iff.mp hg).1 | exact (Bool.and_eq_true_iff.mp (Bool.and_eq_true_iff.mp hg).1).1) ?_)) (fun hg => sf_eq (a := (x4.2)) (b := (6 : Int)) rfl rfl rfl ⟨⟨rfl, rfl, rfl⟩, rfl, Imp.refl⟩) (fun _ _ hi => nomatch hi) ?_
      refine XK.gp (some 39) rfl rfl rfl rfl rfl rfl (fun h => h) (fun hg hb => by first | (rw [hg, hb]; rfl) | (simp only [hg, hb]; rfl) | simp_all) (fun _ _ => rfl) ((decide ((x7.2.2.2) = (0 : Int))) && (decide ((x4.2) = (6 : Int)))) (bif_and _ _) ?_
      refine XK.gd (v := .d (.val (.bool ((decide ((x7.2.2.2) = (0 : Int))) && (decide ((x4.2) = (6 : Int))))))) (T := []) (some 40) rfl rfl (by repeat (first | exact trivial | refine And.intro (fun hg => by first | rfl | exact hg | exact (Bool.and_eq_true_iff.mp hg).1 | exact (Bool.and_eq_true_iff.mp (Bool.and_eq_true_iff.mp hg).1).1) ?_)) (fun hg => sf_move (v := .d (.val (.bool ((decide ((x7.2.2.2) = (0 : Int))) && (decide ((x4.2) = (6 : Int))))))) rfl rfl ⟨⟨rfl, rfl, rfl⟩, rfl, Imp.refl⟩) (fun _ _ hi => nomatch hi) ?_
      refine XK.gd (v := .d (.val (.int .i64 (x7.2.2.2)))) (T := []) (some 41) rfl rfl (by repeat (first | exact trivial | refine And.intro (fun hg => by first | rfl | exact hg | exact (Bool.and_eq_true_iff.mp hg).1 | exact (Bool.and_eq_true_iff.mp (Bool.and_eq_true_iff.mp hg).1).1) ?_)) (fun hg => sf_move (v := .d (.val (.int .i64 (x7.2.2.2)))) rfl rfl ⟨⟨rfl, rfl, rfl⟩, rfl, Imp.refl⟩) (fun _ _ hi => nomatch hi) ?_
      refine XK.gd (v := .d (.val (.bool (!decide ((x7.2.2.2) = (0 : Int)))))) (T := []) (some 42) rfl rfl (by repeat (first | exact trivial | refine And.intro (fun hg => by first | rfl | exact hg | exact (Bool.and_eq_true_iff.mp hg).1 | exact (Bool.and_eq_true_iff.mp (Bool.and_eq_true_iff.mp hg).1).1) ?_)) (fun hg => sf_ne (a := (x7.2.2.2)) (b := (0 : Int)) rfl rfl rfl ⟨⟨rfl, rfl, rfl⟩, rfl, Imp.refl⟩) (fun _ _ hi => nomatch hi) ?_
      refine XK.gd (v := .d (.val (.bool (!decide ((x7.2.2.2) = (0 : Int)))))) (T := []) (some 43) rfl rfl (by repeat (first | exact trivial | refine And.intro (fun hg => by first | rfl | exact hg | exact (Bool.and_eq_true_iff.mp hg).1 | exact (Bool.and_eq_true_iff.mp (Bool.and_eq_true_iff.mp hg).1).1) ?_)) (fun hg => sf_move (v := .d (.val (.bool (!decide ((x7.2.2.2) = (0 : Int)))))) rfl rfl ⟨⟨rfl, rfl, rfl⟩, rfl, Imp.refl⟩) (fun _ _ hi => nomatch hi) ?_
      refine XK.gd (v := .d (.val (.int .i64 (x4.2)))) (T := []) (some 44) rfl rfl (by repeat (first | exact trivial | refine And.intro (fun hg => by first | rfl | exact hg | exact (Bool.and_eq_true_iff.mp hg).1 | exact (Bool.and_eq_true_iff.mp (Bool.and_eq_true_iff.mp hg).1).1) ?_)) (fun hg => sf_move (v := .d (.val (.int .i64 (x4.2)))) rfl rfl ⟨⟨rfl, rfl, rfl⟩, rfl, Imp.refl⟩) (fun _ _ hi => nomatch hi) ?_
      refine XK.gd (v := .d (.val (.int .i64 (x7.2.2.2)))) (T := []) (some 45) rfl rfl (by repeat (first | exact trivial | refine And.intro (fun hg => by first | rfl | exact hg | exact (Bool.and_eq_true_iff.mp hg).1 | exact (Bool.and_eq_true_iff.mp (Bool.and_eq_true_iff.mp hg).1).1) ?_)) (fun hg => sf_move (v := .d (.val (.int .i64 (x7.2.2.2)))) rfl rfl ⟨⟨rfl, rfl, rfl⟩, rfl, Imp.refl⟩) (fun _ _ hi => nomatch hi) ?_
      refine XK.gd (v := .d (.val (.bool (decide ((x4.2) = (x7.2.2.2)))))) (T := []) (some 46) rfl rfl (by repeat (first | exact trivial | refine And.intro (fun hg => by first | rfl | exact hg | exact (Bool.and_eq_true_iff.mp hg).1 | exact (Bool.and_eq_true_iff.mp (Bool.and_eq_true_iff.mp hg).1).1) ?_)) (fun hg => sf_eq (a := (x4.2)) (b := (x7.2.2.2)) rfl rfl rfl ⟨⟨rfl, rfl, rfl⟩, rfl, Imp.refl⟩) (fun _ _ hi => nomatch hi) ?_
      refine XK.gp (some 47) rfl rfl rfl rfl rfl rfl (fun h => h) (fun hg hb => by first | (rw [hg, hb]; rfl) | (simp only [hg, hb]; rfl) | simp_all) (fun _ _ => rfl) ((!decide ((x7.2.2.2) = (0 : Int))) && (decide ((x4.2) = (x7.2.2.2)))) (bif_and _ _) ?_
      refine XK.gp (some 48) rfl rfl rfl rfl rfl rfl (fun h => h) (fun _ _ => rfl) (fun hg hb => by first | (rw [hg, hb]; rfl) | (simp only [hg, hb]; rfl) | simp_all) (((decide ((x7.2.2.2) = (0 : Int))) && (decide ((x4.2) = (6 : Int)))) || ((!decide ((x7.2.2.2) = (0 : Int))) && (decide ((x4.2) = (x7.2.2.2))))) (bif_or _ _) ?_
      refine XK.st (some 49) rfl rfl (sf_pickA rfl rfl rfl rfl (fun hb => by rw [hb]; rfl) (fun _ => rfl) ?_)
      refine XK.st (some 2) rfl rfl (sf_assign (v := .d (.val (.bool ((x9 && x11) && (((decide ((x7.2.2.2) = (0 : Int))) && (decide ((x4.2) = (6 : Int)))) || ((!decide ((x7.2.2.2) = (0 : Int))) && (decide ((x4.2) = (x7.2.2.2))))))))) rfl rfl ?_)
      refine XK.nil (nrm ?_)
      refine QW.ret (Nat.zero_le _) (thR ?_)
      obtain rfl := sO h
      exact Ends.one (.inr rfl) rfl (ResIs.tmp rfl) rfl rfl
    · replace h := bF h hb6
      refine QW.skip (Nat.zero_le _) (nrm ?_)
      refine QW.seq ?_
      refine QW.region (Nat.zero_le _) (PW.regT (by kernel_rfl) ?_)
      obtain ⟨x13, hx14, h⟩ := bO h
      refine XK.st (some 50) rfl rfl (sf_call rfl rfl TT.enters_71 rfl (sim_law15_awake  _ hx14) ?_)
      refine XK.st (some 51) rfl rfl (sf_move (v := .d (.val (.bool x13))) rfl rfl ?_)
      refine XK.gd (v := .d (.agg (cWitness (x4.1)))) (T := [0]) (some 52) rfl rfl (by repeat (first | exact trivial | refine And.intro (fun hg => by first | rfl | exact hg | exact (Bool.and_eq_true_iff.mp hg).1 | exact (Bool.and_eq_true_iff.mp (Bool.and_eq_true_iff.mp hg).1).1) ?_)) (fun hg => sf_ldV (v := .agg (((((x4.1).fKey).1.map byteD).map PV.d) ++ ([.d (.slice (((x4.1).fLinks).map eLink))]))) rfl TT.tyA_91 rfl rfl (ldv_whole (len_app (b := 1) (len_map2 _) rfl rfl) (by decide)) ⟨⟨rfl, rfl, rfl⟩, rfl, (Imp.toD (toD_agg (toDs_app toDs_map rfl)))⟩) (fun _ i hi => by simp only [List.mem_singleton] at hi; subst hi; decide) ?_
      obtain ⟨x15, hx16, h⟩ := bO h
      refine XK.gd (v := .d (.val (.bool x15))) (T := []) (some 53) rfl rfl (by repeat (first | exact trivial | refine And.intro (fun hg => by first | rfl | exact hg | exact (Bool.and_eq_true_iff.mp hg).1 | exact (Bool.and_eq_true_iff.mp (Bool.and_eq_true_iff.mp hg).1).1) ?_)) (fun hg => sf_call rfl rfl TT.enters_73 rfl (sim_ref15_May (x4.1) _ (bT hx16 hg)) ⟨⟨rfl, rfl, rfl⟩, rfl, Imp.refl⟩) (fun _ _ hi => nomatch hi) ?_
      refine XK.st (some 54) rfl rfl (sf_pickA rfl rfl rfl rfl (fun hb => by rw [hb]; rfl) (fun _ => rfl) ?_)
      refine XK.st (some 55) rfl rfl (sf_move (v := .d (.val (.bool (x13 && x15)))) rfl rfl ?_)
      refine XK.gd (v := .d (.agg (cWitness (x4.1)))) (T := [0]) (some 56) rfl rfl (by repeat (first | exact trivial | refine And.intro (fun hg => by first | rfl | exact hg | exact (Bool.and_eq_true_iff.mp hg).1 | exact (Bool.and_eq_true_iff.mp (Bool.and_eq_true_iff.mp hg).1).1) ?_)) (fun hg => sf_ldV (v := .agg (((((x4.1).fKey).1.map byteD).map PV.d) ++ ([.d (.slice (((x4.1).fLinks).map eLink))]))) rfl TT.tyA_91 rfl rfl (ldv_whole (len_app (b := 1) (len_map2 _) rfl rfl) (by decide)) ⟨⟨rfl, rfl, rfl⟩, rfl, (Imp.toD (toD_agg (toDs_app toDs_map rfl)))⟩) (fun _ i hi => by simp only [List.mem_singleton] at hi; subst hi; decide) ?_
      obtain ⟨x17, hx18, h⟩ := bO h
      refine XK.gd (v := .d (.agg (cItem x17))) (T := []) (some 57) rfl rfl (by repeat (first | exact trivial | refine And.intro (fun hg => by first | rfl | exact hg | exact (Bool.and_eq_true_iff.mp hg).1 | exact (Bool.and_eq_true_iff.mp (Bool.and_eq_true_iff.mp hg).1).1) ?_)) (fun hg => sf_call rfl rfl TT.enters_80 rfl (sim_ref15_Item (x4.1) _ (bT hx18 hg)) ⟨⟨rfl, rfl, rfl⟩, rfl, Imp.refl⟩) (fun _ _ hi => nomatch hi) ?_
      obtain ⟨x19, hx20, h⟩ := bO h
      refine XK.gd (v := .d (.val (sV x19))) (T := []) (some 58) rfl rfl (by repeat (first | exact trivial | refine And.intro (fun hg => by first | rfl | exact hg | exact (Bool.and_eq_true_iff.mp hg).1 | exact (Bool.and_eq_true_iff.mp (Bool.and_eq_true_iff.mp hg).1).1) ?_)) (fun hg => sf_call rfl rfl TT.enters_79 rfl (sim_ref05_Put x17 _ (bT hx20 hg)) ⟨⟨rfl, rfl, rfl⟩, rfl, Imp.refl⟩) (fun _ _ hi => nomatch hi) ?_
      refine XK.gd (v := .d (.val (sV s0))) (T := []) (some 59) rfl rfl (by repeat (first | exact trivial | refine And.intro (fun hg => by first | rfl | exact hg | exact (Bool.and_eq_true_iff.mp hg).1 | exact (Bool.and_eq_true_iff.mp (Bool.and_eq_true_iff.mp hg).1).1) ?_)) (fun hg => sf_move (v := .d (.val (sV s0))) rfl rfl ⟨⟨rfl, rfl, rfl⟩, rfl, Imp.refl⟩) (fun _ _ hi => nomatch hi) ?_
      refine XK.gd (v := .d (.val (.bool (x19 == s0)))) (T := []) (some 60) rfl rfl (by repeat (first | exact trivial | refine And.intro (fun hg => by first | rfl | exact hg | exact (Bool.and_eq_true_iff.mp hg).1 | exact (Bool.and_eq_true_iff.mp (Bool.and_eq_true_iff.mp hg).1).1) ?_)) (fun hg => sf_seq (a := x19) (b := s0) rfl rfl rfl ⟨⟨rfl, rfl, rfl⟩, rfl, Imp.refl⟩) (fun _ _ hi => nomatch hi) ?_
      refine XK.st (some 61) rfl rfl (sf_pickA rfl rfl rfl rfl (fun hb => by rw [hb]; rfl) (fun _ => rfl) ?_)
      refine XK.st (some 2) rfl rfl (sf_assign (v := .d (.val (.bool ((x13 && x15) && (x19 == s0))))) rfl rfl ?_)
      refine XK.nil (nrm ?_)
      refine QW.ret (Nat.zero_le _) ?_
      obtain rfl := sO h
      exact Ends.one (.inr rfl) rfl (ResIs.tmp rfl) rfl rfl

end Go.Proofs.Ytonlehebfeilmaa.K
