/- The reference of layer 15: what it reckons. -/
import Derived.Test.YtonlehebfeilmaaWR05
import Derived.Test.YtonlehebfeilmaaWWire
import Derived.KernelRfl
namespace Go.Proofs.Ytonlehebfeilmaa.K
open Go Go.RowKit
set_option linter.unusedSimpArgs false
set_option linter.unusedVariables false
namespace TT
theorem enters_113 : entersB Try.prog 113 = true := by kernel_rfl
theorem enters_115 : entersB Try.prog 115 = true := by kernel_rfl
theorem res_113 : Try.f113.results.toList = [.tmp 4] := rfl
theorem res_115 : Try.f115.results.toList = [.tmp 2] := rfl
theorem res_30 : Try.f30.results.toList = [.tmp 2] := rfl
theorem res_73 : Try.f73.results.toList = [.tmp 2] := rfl
theorem res_77 : Try.f77.results.toList = [.tmp 4] := rfl
theorem res_80 : Try.f80.results.toList = [.cell 2 80] := rfl
theorem slcA_29 : slcA Try.prog 29 = none := by kernel_rfl
theorem slcA_34 : slcA Try.prog 34 = some (1, 16, false) := by kernel_rfl
theorem tyA_5 : tyA Try.prog 5 = some (false, 1) := by kernel_rfl
theorem under_34 : Program.underlying Try.prog 34 = some (.slice 9) := by kernel_rfl
end TT
inductive C_ref15_May where
  | S
  | L1 (v3 : Int)
  | L2 (v3_5 : Int) (v5_3 : Int) (v4_0_4 : Int) (v4_1_4 : (List (List UInt8)))

noncomputable def step_ref15_May (w0 : Witness) : C_ref15_May → Option (C_ref15_May ⊕ Bool)
  | .S =>
    (bif ((decide (((w0.fLinks).length : Int) < (1 : Int))) || (decide ((64 : Int) < ((w0.fLinks).length : Int)))) then
    some (.inr false)
    else
    some (.inl (.L1 (0))))
  | .L1 v3 =>
    (bif (decide (v3 < ((w0.fLinks).length : Int))) then
    gO (0 ≤ v3 ∧ v3 < ((w0.fLinks).length : Int)) (
    gO ((((decide (((idx (w0.fLinks) v3).fEpoch) < (0 : Int))) || (decide ((1048576 : Int) < ((idx (w0.fLinks) v3).fEpoch)))) || (decide ((70 : Int) < (((idx (w0.fLinks) v3).fProof).length : Int)))) = false → 0 ≤ (0 : Int) ∧ (0 : Int) < ((w0.fLinks).length : Int)) (
    gO ((((decide (((idx (w0.fLinks) v3).fEpoch) < (0 : Int))) || (decide ((1048576 : Int) < ((idx (w0.fLinks) v3).fEpoch)))) || (decide ((70 : Int) < (((idx (w0.fLinks) v3).fProof).length : Int)))) = false → inI (((idx (w0.fLinks) (0 : Int)).fEpoch) + v3)) (
    (bif ((((decide (((idx (w0.fLinks) v3).fEpoch) < (0 : Int))) || (decide ((1048576 : Int) < ((idx (w0.fLinks) v3).fEpoch)))) || (decide ((70 : Int) < (((idx (w0.fLinks) v3).fProof).length : Int)))) || (!decide (((idx (w0.fLinks) v3).fEpoch) = (((idx (w0.fLinks) (0 : Int)).fEpoch) + v3)))) then
    some (.inr false)
    else
    some (.inl (.L2 v3 (0) ((idx (w0.fLinks) v3).fEpoch) ((idx (w0.fLinks) v3).fProof)))))))
    else
    some (.inr true))
  | .L2 v3_5 v5_3 v4_0_4 v4_1_4 =>
    (bif (decide (v5_3 < (v4_1_4.length : Int))) then
    gO (0 ≤ v5_3 ∧ v5_3 < (v4_1_4.length : Int)) (
    gO (((idx v4_1_4 v5_3) == ([] : List UInt8)) = false → 0 ≤ v5_3 ∧ v5_3 < (v4_1_4.length : Int)) (
    (bif (((idx v4_1_4 v5_3) == ([] : List UInt8)) || (decide ((66000 : Int) < ((idx v4_1_4 v5_3).length : Int)))) then
    some (.inr false)
    else
    gO (inI (v5_3 + (1 : Int))) (
    some (.inl (.L2 v3_5 (v5_3 + (1 : Int)) v4_0_4 v4_1_4))))))
    else
    gO (inI (v3_5 + (1 : Int))) (
    some (.inl (.L1 (v3_5 + (1 : Int))))))

noncomputable def g_ref15_May (w0 : Witness) : Option Bool := theC (step_ref15_May w0) .S

set_option maxRecDepth 20000 in
set_option maxHeartbeats 4000000 in
theorem sim_ref15_May (w0 : Witness) (r : Bool) (h : g_ref15_May w0 = some r) : Fun Try.prog 73 [.agg (cWitness w0)] (.val (.bool r)) := by
  refine Fun.of_bodyQ Try.func73 rfl (by simp [Try.ntmps73]) ?_
  rw [Try.ntmps73, TT.res_73]
  refine QW.view (s' := ⟨tab [(0, .d (.agg (cWitness w0)))], tabH [], 0, []⟩) (View.init (by rfl)) (Nat.zero_le _) ?_
  replace h := theC_get h
  obtain ⟨_, h⟩ := h
  obtain ⟨k0, rfl, h9⟩ := run_succ h; replace h := h9; clear h9
  refine QW.seq ?_
  refine QW.region (Nat.zero_le _) (PW.regT (by kernel_rfl) ?_)
  refine XK.fz (some 1) rfl rfl (sf_boxF (ds := cWitness w0) rfl rfl rfl rfl toDs_map ?_)
  refine XK.st (some 2) rfl rfl (sf_assign (v := .d (.val (.bool false))) rfl rfl ?_)
  refine XK.nil (nrm ?_)
  refine QW.seq ?_
  refine QW.seq ?_
  refine QW.region (Nat.zero_le _) (PW.regT (by kernel_rfl) ?_)
  refine XK.st (some 6) rfl rfl (sf_fldC rfl TT.fldA_91_1 (by decide) rfl ?_)
  refine XK.st (some 7) rfl rfl (sf_ldC (d := .slice ((w0.fLinks).map eLink)) rfl TT.tyA_89 rfl (ldc_Witness_1 _) ?_)
  refine XK.st (some 8) rfl rfl (sf_lenL (en := eLink) (l := w0.fLinks) rfl TT.under_89 rfl ?_)
  refine XK.st (some 9) rfl rfl (sf_lss (a := ((w0.fLinks).length : Int)) (b := (1 : Int)) rfl rfl rfl ?_)
  refine XK.st (some 10) rfl rfl (sf_move (v := .d (.val (.bool (decide (((w0.fLinks).length : Int) < (1 : Int)))))) rfl rfl ?_)
  refine XK.gd (v := .d (.cptr ((cWitness w0).drop 32))) (T := []) (some 11) rfl rfl (by repeat (first | exact trivial | refine And.intro (fun hg => by first | rfl | exact hg | exact (Bool.and_eq_true_iff.mp hg).1 | exact (Bool.and_eq_true_iff.mp (Bool.and_eq_true_iff.mp hg).1).1) ?_)) (fun hg => sf_fldC rfl TT.fldA_91_1 (by decide) rfl ⟨⟨rfl, rfl, rfl⟩, rfl, Imp.refl⟩) (fun _ _ hi => nomatch hi) ?_
  refine XK.gd (v := .d (.slice ((w0.fLinks).map eLink))) (T := []) (some 12) rfl rfl (by repeat (first | exact trivial | refine And.intro (fun hg => by first | rfl | exact hg | exact (Bool.and_eq_true_iff.mp hg).1 | exact (Bool.and_eq_true_iff.mp (Bool.and_eq_true_iff.mp hg).1).1) ?_)) (fun hg => sf_ldC (d := .slice ((w0.fLinks).map eLink)) rfl TT.tyA_89 rfl (ldc_Witness_1 _) ⟨⟨rfl, rfl, rfl⟩, rfl, Imp.refl⟩) (fun _ _ hi => nomatch hi) ?_
  refine XK.gd (v := .d (.val (.int .i64 ((w0.fLinks).length : Int)))) (T := []) (some 13) rfl rfl (by repeat (first | exact trivial | refine And.intro (fun hg => by first | rfl | exact hg | exact (Bool.and_eq_true_iff.mp hg).1 | exact (Bool.and_eq_true_iff.mp (Bool.and_eq_true_iff.mp hg).1).1) ?_)) (fun hg => sf_lenL (en := eLink) (l := w0.fLinks) rfl TT.under_89 rfl ⟨⟨rfl, rfl, rfl⟩, rfl, Imp.refl⟩) (fun _ _ hi => nomatch hi) ?_
  refine XK.gd (v := .d (.val (.bool (decide ((64 : Int) < ((w0.fLinks).length : Int)))))) (T := []) (some 14) rfl rfl (by repeat (first | exact trivial | refine And.intro (fun hg => by first | rfl | exact hg | exact (Bool.and_eq_true_iff.mp hg).1 | exact (Bool.and_eq_true_iff.mp (Bool.and_eq_true_iff.mp hg).1).1) ?_)) (fun hg => sf_gtr (a := ((w0.fLinks).length : Int)) (b := (64 : Int)) rfl rfl rfl ⟨⟨rfl, rfl, rfl⟩, rfl, Imp.refl⟩) (fun _ _ hi => nomatch hi) ?_
  refine XK.st (some 15) rfl rfl (sf_pickO rfl rfl rfl rfl (fun _ => rfl) (fun hb => by rw [hb]; rfl) ?_)
  refine XK.nil (nrm ?_)
  refine QW.cond (t := ((decide (((w0.fLinks).length : Int) < (1 : Int))) || (decide ((64 : Int) < ((w0.fLinks).length : Int))))) rfl (Nat.zero_le _) (fun hb1 => ?_) (fun hb1 => ?_)
  · replace h := bGT h hb1
    refine QW.seq ?_
    refine QW.region (Nat.zero_le _) (PW.regT (by kernel_rfl) ?_)
    refine XK.st (some 2) rfl rfl (sf_assign (v := .d (.val (.bool false))) rfl rfl ?_)
    refine XK.nil (nrm ?_)
    refine QW.ret (Nat.zero_le _) (thR ?_)
    obtain rfl := sG h
    exact Ends.one (.inr rfl) rfl (ResIs.tmp rfl) rfl rfl
  · replace h := bGF h hb1
    refine QW.skip (Nat.zero_le _) (nrm ?_)
    refine QW.seq ?_
    refine QW.seq ?_
    refine QW.region (Nat.zero_le _) (PW.regT (by kernel_rfl) ?_)
    refine XK.st (some 3) rfl rfl (sf_assign (v := .d (.val (.int .i64 (0)))) rfl rfl ?_)
    refine XK.nil (nrm ?_)
    refine QW.block ?_
    refine QW.loop (fun k σ => ∃ v3 : Int, k ≤ k0 ∧ run (step_ref15_May w0) k (.L1 v3) = some r ∧ σ = ⟨tab [(1, .d (.cptr (cWitness w0))), (3, .d (.val (.int .i64 v3)))], tabH [], 0, []⟩) k0 (Nat.zero_le _) ⟨⟨tab [(1, .d (.cptr (cWitness w0))), (3, .d (.val (.int .i64 (0))))], tabH [], 0, []⟩, View.mk 0 [] _ _ _ rfl rfl (by decide) (And.intro (Imp.of_eq rfl) (And.intro (Imp.of_eq rfl) trivial)) trivial rfl (Nat.zero_le _) rfl, 0, Nat.le_refl _, jG h, rfl⟩ ?_
    rintro k2s _ ⟨v3, k2h, h, rfl⟩
    obtain ⟨k2, rfl, h9⟩ := run_succ h; replace h := h9; clear h9
    refine QW.seq ?_
    refine QW.seq ?_
    refine QW.region (Nat.zero_le _) (PW.regT (by kernel_rfl) ?_)
    refine XK.st (some 16) rfl rfl (sf_move (v := .d (.val (.int .i64 v3))) rfl rfl ?_)
    refine XK.st (some 17) rfl rfl (sf_fldC rfl TT.fldA_91_1 (by decide) rfl ?_)
    refine XK.st (some 18) rfl rfl (sf_ldC (d := .slice ((w0.fLinks).map eLink)) rfl TT.tyA_89 rfl (ldc_Witness_1 _) ?_)
    refine XK.st (some 19) rfl rfl (sf_lenL (en := eLink) (l := w0.fLinks) rfl TT.under_89 rfl ?_)
    refine XK.st (some 20) rfl rfl (sf_lss (a := v3) (b := ((w0.fLinks).length : Int)) rfl rfl rfl ?_)
    refine XK.nil (nrm ?_)
    refine QW.cond (t := (decide (v3 < ((w0.fLinks).length : Int)))) rfl (Nat.zero_le _) (fun hb3 => ?_) (fun hb3 => ?_)
    · replace h := bGT h hb3
      refine QW.skip (Nat.zero_le _) (nrm ?_)
      refine QW.seq ?_
      refine QW.block ?_
      refine QW.seq ?_
      refine QW.region (Nat.zero_le _) (PW.regT (by kernel_rfl) ?_)
      refine XK.st (some 23) rfl rfl (sf_fldC rfl TT.fldA_91_1 (by decide) rfl ?_)
      refine XK.st (some 24) rfl rfl (sf_ldC (d := .slice ((w0.fLinks).map eLink)) rfl TT.tyA_89 rfl (ldc_Witness_1 _) ?_)
      refine XK.st (some 25) rfl rfl (sf_move (v := .d (.val (.int .i64 v3))) rfl rfl ?_)
      obtain ⟨c4, h⟩ := gG h
      refine XK.st (some 26) rfl rfl (sf_idxA (l := w0.fLinks) (i := v3) rfl TT.slcA_89 lay_Link rfl rfl c4 ?_)
      refine XK.st (some 27) rfl rfl (sf_ldC (d := .agg (cLink (idx (w0.fLinks) v3))) rfl TT.tyA_96 rfl (⟨by simp [cLink], rfl⟩) ?_)
      refine XK.st (some 4) rfl rfl (sf_alloc (l := [.d (.val (.int .i64 (0))), .full (([] : (List (List UInt8))).map eS)]) rfl TT.zeroA_96 rfl rfl ?_)
      refine XK.st none rfl rfl (sf_stV (l' := [.d (.val (.int .i64 ((idx (w0.fLinks) v3).fEpoch))), .d (.slice (((idx (w0.fLinks) v3).fProof).map eS))]) rfl TT.tyA_96 rfl rfl rfl rfl rfl rfl (by simp) rfl ?_)
      refine XK.nil (nrm ?_)
      refine QW.seq ?_
      refine QW.seq ?_
      refine QW.region (Nat.zero_le _) (PW.regQ (id := 7) mixedX (M := _) rfl (by kernel_rfl) ?_)
      refine RQ.st (some 28) rfl rfl (sf_fldV rfl TT.fldA_96_0 (by decide) rfl ⟨⟨rfl, rfl⟩, ?_⟩)
      refine RQ.st (some 29) rfl rfl (sf_ldV (v := .d (.val (.int .i64 ((idx (w0.fLinks) v3).fEpoch)))) rfl TT.tyA_3 rfl rfl ⟨⟨by simp, by simp⟩, rfl⟩ ⟨⟨rfl, rfl⟩, ?_⟩)
      refine RQ.st (some 30) rfl rfl (sf_lss (a := ((idx (w0.fLinks) v3).fEpoch)) (b := (0 : Int)) rfl rfl rfl ⟨⟨rfl, rfl⟩, ?_⟩)
      refine RQ.st (some 31) rfl rfl (sf_move (v := .d (.val (.bool (decide (((idx (w0.fLinks) v3).fEpoch) < (0 : Int)))))) rfl rfl ⟨⟨rfl, rfl⟩, ?_⟩)
      refine RQ.gd (v := .vptr 0 0) (T := []) (some 32) rfl rfl (by repeat (first | exact trivial | refine And.intro (fun hg => by first | rfl | exact hg | exact (Bool.and_eq_true_iff.mp hg).1 | exact (Bool.and_eq_true_iff.mp (Bool.and_eq_true_iff.mp hg).1).1) ?_)) (fun hg => sf_fldV rfl TT.fldA_96_0 (by decide) rfl ⟨⟨rfl, rfl, rfl⟩, rfl, Imp.refl⟩) (fun _ _ hi => nomatch hi) ?_
      refine RQ.gd (v := .d (.val (.int .i64 ((idx (w0.fLinks) v3).fEpoch)))) (T := [0]) (some 33) rfl rfl (by repeat (first | exact trivial | refine And.intro (fun hg => by first | rfl | exact hg | exact (Bool.and_eq_true_iff.mp hg).1 | exact (Bool.and_eq_true_iff.mp (Bool.and_eq_true_iff.mp hg).1).1) ?_)) (fun hg => sf_ldV (v := .d (.val (.int .i64 ((idx (w0.fLinks) v3).fEpoch)))) rfl TT.tyA_3 rfl rfl ⟨⟨by simp, by simp⟩, rfl⟩ ⟨⟨rfl, rfl, rfl⟩, rfl, Imp.refl⟩) (fun _ i hi => by simp only [List.mem_singleton] at hi; subst hi; decide) ?_
      refine RQ.gd (v := .d (.val (.bool (decide ((1048576 : Int) < ((idx (w0.fLinks) v3).fEpoch)))))) (T := []) (some 34) rfl rfl (by repeat (first | exact trivial | refine And.intro (fun hg => by first | rfl | exact hg | exact (Bool.and_eq_true_iff.mp hg).1 | exact (Bool.and_eq_true_iff.mp (Bool.and_eq_true_iff.mp hg).1).1) ?_)) (fun hg => sf_gtr (a := ((idx (w0.fLinks) v3).fEpoch)) (b := (1048576 : Int)) rfl rfl rfl ⟨⟨rfl, rfl, rfl⟩, rfl, Imp.refl⟩) (fun _ _ hi => nomatch hi) ?_
      refine RQ.st (some 35) rfl rfl (sf_pickO rfl rfl rfl rfl (fun _ => rfl) (fun hb => by rw [hb]; rfl) ⟨⟨rfl, rfl⟩, ?_⟩)
      refine RQ.st (some 36) rfl rfl (sf_move (v := .d (.val (.bool ((decide (((idx (w0.fLinks) v3).fEpoch) < (0 : Int))) || (decide ((1048576 : Int) < ((idx (w0.fLinks) v3).fEpoch))))))) rfl rfl ⟨⟨rfl, rfl⟩, ?_⟩)
      refine RQ.gd (v := .vptr 0 1) (T := []) (some 37) rfl rfl (by repeat (first | exact trivial | refine And.intro (fun hg => by first | rfl | exact hg | exact (Bool.and_eq_true_iff.mp hg).1 | exact (Bool.and_eq_true_iff.mp (Bool.and_eq_true_iff.mp hg).1).1) ?_)) (fun hg => sf_fldV rfl TT.fldA_96_1 (by decide) rfl ⟨⟨rfl, rfl, rfl⟩, rfl, Imp.refl⟩) (fun _ _ hi => nomatch hi) ?_
      refine RQ.gd (v := .d (.slice (((idx (w0.fLinks) v3).fProof).map eS))) (T := [0]) (some 38) rfl rfl (by repeat (first | exact trivial | refine And.intro (fun hg => by first | rfl | exact hg | exact (Bool.and_eq_true_iff.mp hg).1 | exact (Bool.and_eq_true_iff.mp (Bool.and_eq_true_iff.mp hg).1).1) ?_)) (fun hg => sf_ldV (v := .d (.slice (((idx (w0.fLinks) v3).fProof).map eS))) rfl TT.tyA_94 rfl rfl ⟨⟨by simp, by simp⟩, rfl⟩ ⟨⟨rfl, rfl, rfl⟩, rfl, Imp.refl⟩) (fun _ i hi => by simp only [List.mem_singleton] at hi; subst hi; decide) ?_
      refine RQ.gd (v := .d (.val (.int .i64 (((idx (w0.fLinks) v3).fProof).length : Int)))) (T := []) (some 39) rfl rfl (by repeat (first | exact trivial | refine And.intro (fun hg => by first | rfl | exact hg | exact (Bool.and_eq_true_iff.mp hg).1 | exact (Bool.and_eq_true_iff.mp (Bool.and_eq_true_iff.mp hg).1).1) ?_)) (fun hg => sf_lenL (en := eS) (l := (idx (w0.fLinks) v3).fProof) rfl TT.under_94 rfl ⟨⟨rfl, rfl, rfl⟩, rfl, Imp.refl⟩) (fun _ _ hi => nomatch hi) ?_
      refine RQ.gd (v := .d (.val (.bool (decide ((70 : Int) < (((idx (w0.fLinks) v3).fProof).length : Int)))))) (T := []) (some 40) rfl rfl (by repeat (first | exact trivial | refine And.intro (fun hg => by first | rfl | exact hg | exact (Bool.and_eq_true_iff.mp hg).1 | exact (Bool.and_eq_true_iff.mp (Bool.and_eq_true_iff.mp hg).1).1) ?_)) (fun hg => sf_gtr (a := (((idx (w0.fLinks) v3).fProof).length : Int)) (b := (70 : Int)) rfl rfl rfl ⟨⟨rfl, rfl, rfl⟩, rfl, Imp.refl⟩) (fun _ _ hi => nomatch hi) ?_
      refine RQ.st (some 41) rfl rfl (sf_pickO rfl rfl rfl rfl (fun _ => rfl) (fun hb => by rw [hb]; rfl) ⟨⟨rfl, rfl⟩, ?_⟩)
      refine RQ.st (some 42) rfl rfl (sf_move (v := .d (.val (.bool (((decide (((idx (w0.fLinks) v3).fEpoch) < (0 : Int))) || (decide ((1048576 : Int) < ((idx (w0.fLinks) v3).fEpoch)))) || (decide ((70 : Int) < (((idx (w0.fLinks) v3).fProof).length : Int))))))) rfl rfl ⟨⟨rfl, rfl⟩, ?_⟩)
      refine RQ.gd (v := .vptr 0 0) (T := []) (some 43) rfl rfl (by repeat (first | exact trivial | refine And.intro (fun hg => by first | rfl | exact hg | exact (Bool.and_eq_true_iff.mp hg).1 | exact (Bool.and_eq_true_iff.mp (Bool.and_eq_true_iff.mp hg).1).1) ?_)) (fun hg => sf_fldV rfl TT.fldA_96_0 (by decide) rfl ⟨⟨rfl, rfl, rfl⟩, rfl, Imp.refl⟩) (fun _ _ hi => nomatch hi) ?_
      refine RQ.gd (v := .d (.val (.int .i64 ((idx (w0.fLinks) v3).fEpoch)))) (T := [0]) (some 44) rfl rfl (by repeat (first | exact trivial | refine And.intro (fun hg => by first | rfl | exact hg | exact (Bool.and_eq_true_iff.mp hg).1 | exact (Bool.and_eq_true_iff.mp (Bool.and_eq_true_iff.mp hg).1).1) ?_)) (fun hg => sf_ldV (v := .d (.val (.int .i64 ((idx (w0.fLinks) v3).fEpoch)))) rfl TT.tyA_3 rfl rfl ⟨⟨by simp, by simp⟩, rfl⟩ ⟨⟨rfl, rfl, rfl⟩, rfl, Imp.refl⟩) (fun _ i hi => by simp only [List.mem_singleton] at hi; subst hi; decide) ?_
      refine RQ.gd (v := .d (.cptr ((cWitness w0).drop 32))) (T := []) (some 45) rfl rfl (by repeat (first | exact trivial | refine And.intro (fun hg => by first | rfl | exact hg | exact (Bool.and_eq_true_iff.mp hg).1 | exact (Bool.and_eq_true_iff.mp (Bool.and_eq_true_iff.mp hg).1).1) ?_)) (fun hg => sf_fldC rfl TT.fldA_91_1 (by decide) rfl ⟨⟨rfl, rfl, rfl⟩, rfl, Imp.refl⟩) (fun _ _ hi => nomatch hi) ?_
      refine RQ.gd (v := .d (.slice ((w0.fLinks).map eLink))) (T := []) (some 46) rfl rfl (by repeat (first | exact trivial | refine And.intro (fun hg => by first | rfl | exact hg | exact (Bool.and_eq_true_iff.mp hg).1 | exact (Bool.and_eq_true_iff.mp (Bool.and_eq_true_iff.mp hg).1).1) ?_)) (fun hg => sf_ldC (d := .slice ((w0.fLinks).map eLink)) rfl TT.tyA_89 rfl (ldc_Witness_1 _) ⟨⟨rfl, rfl, rfl⟩, rfl, Imp.refl⟩) (fun _ _ hi => nomatch hi) ?_
      obtain ⟨c5, h⟩ := gG h
      refine RQ.gd (v := .d (.cptr (cLink (idx (w0.fLinks) (0 : Int))))) (T := []) (some 47) rfl rfl (by repeat (first | exact trivial | refine And.intro (fun hg => by first | rfl | exact hg | exact (Bool.and_eq_true_iff.mp hg).1 | exact (Bool.and_eq_true_iff.mp (Bool.and_eq_true_iff.mp hg).1).1) ?_)) (fun hg => sf_idxA (l := w0.fLinks) (i := (0 : Int)) rfl TT.slcA_89 lay_Link rfl rfl (c5 (eqB hg)) ⟨⟨rfl, rfl, rfl⟩, rfl, Imp.refl⟩) (fun _ _ hi => nomatch hi) ?_
      refine RQ.gd (v := .d (.cptr ((cLink (idx (w0.fLinks) (0 : Int))).drop 0))) (T := []) (some 48) rfl rfl (by repeat (first | exact trivial | refine And.intro (fun hg => by first | rfl | exact hg | exact (Bool.and_eq_true_iff.mp hg).1 | exact (Bool.and_eq_true_iff.mp (Bool.and_eq_true_iff.mp hg).1).1) ?_)) (fun hg => sf_fldC rfl TT.fldA_96_0 (by decide) rfl ⟨⟨rfl, rfl, rfl⟩, rfl, Imp.refl⟩) (fun _ _ hi => nomatch hi) ?_
      refine RQ.gd (v := .d (.val (.int .i64 ((idx (w0.fLinks) (0 : Int)).fEpoch)))) (T := []) (some 49) rfl rfl (by repeat (first | exact trivial | refine And.intro (fun hg => by first | rfl | exact hg | exact (Bool.and_eq_true_iff.mp hg).1 | exact (Bool.and_eq_true_iff.mp (Bool.and_eq_true_iff.mp hg).1).1) ?_)) (fun hg => sf_ldC (d := .val (.int .i64 ((idx (w0.fLinks) (0 : Int)).fEpoch))) rfl TT.tyA_3 rfl (LdC.one) ⟨⟨rfl, rfl, rfl⟩, rfl, Imp.refl⟩) (fun _ _ hi => nomatch hi) ?_
      refine RQ.gd (v := .d (.val (.int .i64 v3))) (T := []) (some 50) rfl rfl (by repeat (first | exact trivial | refine And.intro (fun hg => by first | rfl | exact hg | exact (Bool.and_eq_true_iff.mp hg).1 | exact (Bool.and_eq_true_iff.mp (Bool.and_eq_true_iff.mp hg).1).1) ?_)) (fun hg => sf_move (v := .d (.val (.int .i64 v3))) rfl rfl ⟨⟨rfl, rfl, rfl⟩, rfl, Imp.refl⟩) (fun _ _ hi => nomatch hi) ?_
      obtain ⟨c6, h⟩ := gG h
      refine RQ.gd (v := .d (.val (.int .i64 (((idx (w0.fLinks) (0 : Int)).fEpoch) + v3)))) (T := []) (some 51) rfl rfl (by repeat (first | exact trivial | refine And.intro (fun hg => by first | rfl | exact hg | exact (Bool.and_eq_true_iff.mp hg).1 | exact (Bool.and_eq_true_iff.mp (Bool.and_eq_true_iff.mp hg).1).1) ?_)) (fun hg => sf_add (a := ((idx (w0.fLinks) (0 : Int)).fEpoch)) (b := v3) rfl rfl rfl (c6 (eqB hg)) ⟨⟨rfl, rfl, rfl⟩, rfl, Imp.refl⟩) (fun _ _ hi => nomatch hi) ?_
      refine RQ.gd (v := .d (.val (.bool (!decide (((idx (w0.fLinks) v3).fEpoch) = (((idx (w0.fLinks) (0 : Int)).fEpoch) + v3)))))) (T := []) (some 52) rfl rfl (by repeat (first | exact trivial | refine And.intro (fun hg => by first | rfl | exact hg | exact (Bool.and_eq_true_iff.mp hg).1 | exact (Bool.and_eq_true_iff.mp (Bool.and_eq_true_iff.mp hg).1).1) ?_)) (fun hg => sf_ne (a := ((idx (w0.fLinks) v3).fEpoch)) (b := (((idx (w0.fLinks) (0 : Int)).fEpoch) + v3)) rfl rfl rfl ⟨⟨rfl, rfl, rfl⟩, rfl, Imp.refl⟩) (fun _ _ hi => nomatch hi) ?_
      refine RQ.st (some 53) rfl rfl (sf_pickO rfl rfl rfl rfl (fun _ => rfl) (fun hb => by rw [hb]; rfl) ⟨⟨rfl, rfl⟩, ?_⟩)
      refine RQ.nil (nrm ?_)
      refine QW.cond (t := ((((decide (((idx (w0.fLinks) v3).fEpoch) < (0 : Int))) || (decide ((1048576 : Int) < ((idx (w0.fLinks) v3).fEpoch)))) || (decide ((70 : Int) < (((idx (w0.fLinks) v3).fProof).length : Int)))) || (!decide (((idx (w0.fLinks) v3).fEpoch) = (((idx (w0.fLinks) (0 : Int)).fEpoch) + v3))))) rfl (Nat.zero_le _) (fun hb7 => ?_) (fun hb7 => ?_)
      · replace h := bGT h hb7
        refine QW.seq ?_
        refine QW.region (Nat.zero_le _) (PW.regT (by kernel_rfl) ?_)
        refine XK.st (some 2) rfl rfl (sf_assign (v := .d (.val (.bool false))) rfl rfl ?_)
        refine XK.nil (nrm ?_)
        refine QW.ret (Nat.zero_le _) (thR (blR (thR (thR (blR (thR ?_))))))
        obtain rfl := sG h
        exact Ends.one (.inr rfl) rfl (ResIs.tmp rfl) rfl rfl
      · replace h := bGF h hb7
        refine QW.skip (Nat.zero_le _) (nrm ?_)
        refine QW.seq ?_
        refine QW.region (Nat.zero_le _) (PW.regT (by kernel_rfl) ?_)
        refine XK.st (some 5) rfl rfl (sf_assign (v := .d (.val (.int .i64 (0)))) rfl rfl ?_)
        refine XK.nil (nrm ?_)
        refine QW.block ?_
        refine QW.loop (fun k σ => ∃ v3_5 : Int, ∃ v5_3 : Int, ∃ v4_0_4 : Int, ∃ v4_1_4 : (List (List UInt8)), k ≤ k2 ∧ run (step_ref15_May w0) k (.L2 v3_5 v5_3 v4_0_4 v4_1_4) = some r ∧ σ = ⟨tab [(1, .d (.cptr (cWitness w0))), (3, .d (.val (.int .i64 v3_5))), (4, .vptr 0 0), (5, .d (.val (.int .i64 v5_3)))], tabH [.var [.d (.val (.int .i64 v4_0_4)), .d (.slice (v4_1_4.map eS))]], 1, []⟩) k2 (Nat.zero_le _) ⟨⟨tab [(1, .d (.cptr (cWitness w0))), (3, .d (.val (.int .i64 v3))), (4, .vptr 0 0), (5, .d (.val (.int .i64 (0))))], tabH [.var [.d (.val (.int .i64 ((idx (w0.fLinks) v3).fEpoch))), .d (.slice (((idx (w0.fLinks) v3).fProof).map eS))]], 1, []⟩, View.mk 1 [0] _ _ _ rfl rfl (by decide) (And.intro (Imp.of_eq rfl) (And.intro (Imp.of_eq rfl) (And.intro (Imp.of_eq rfl) (And.intro (Imp.of_eq rfl) trivial)))) (And.intro rfl trivial) rfl (Nat.zero_le _) rfl, v3, 0, (idx (w0.fLinks) v3).fEpoch, (idx (w0.fLinks) v3).fProof, Nat.le_refl _, jG h, rfl⟩ ?_
        rintro k8s _ ⟨v3_5, v5_3, v4_0_4, v4_1_4, k8h, h, rfl⟩
        obtain ⟨k8, rfl, h9⟩ := run_succ h; replace h := h9; clear h9
        refine QW.seq ?_
        refine QW.seq ?_
        refine QW.region (Nat.zero_le _) (PW.regT (by kernel_rfl) ?_)
        refine XK.st (some 54) rfl rfl (sf_move (v := .d (.val (.int .i64 v5_3))) rfl rfl ?_)
        refine XK.st (some 55) rfl rfl (sf_fldV rfl TT.fldA_96_1 (by decide) rfl ?_)
        refine XK.st (some 56) rfl rfl (sf_ldV (v := .d (.slice (v4_1_4.map eS))) rfl TT.tyA_94 rfl rfl ⟨⟨by simp, by simp⟩, rfl⟩ ?_)
        refine XK.st (some 57) rfl rfl (sf_lenL (en := eS) (l := v4_1_4) rfl TT.under_94 rfl ?_)
        refine XK.st (some 58) rfl rfl (sf_lss (a := v5_3) (b := (v4_1_4.length : Int)) rfl rfl rfl ?_)
        refine XK.nil (nrm ?_)
        refine QW.cond (t := (decide (v5_3 < (v4_1_4.length : Int)))) rfl (Nat.zero_le _) (fun hb9 => ?_) (fun hb9 => ?_)
        · replace h := bGT h hb9
          refine QW.skip (Nat.zero_le _) (nrm ?_)
          refine QW.seq ?_
          refine QW.block ?_
          refine QW.seq ?_
          refine QW.region (Nat.zero_le _) (PW.regT (by kernel_rfl) ?_)
          refine XK.st (some 61) rfl rfl (sf_fldV rfl TT.fldA_96_1 (by decide) rfl ?_)
          refine XK.st (some 62) rfl rfl (sf_ldV (v := .d (.slice (v4_1_4.map eS))) rfl TT.tyA_94 rfl rfl ⟨⟨by simp, by simp⟩, rfl⟩ ?_)
          refine XK.st (some 63) rfl rfl (sf_move (v := .d (.val (.int .i64 v5_3))) rfl rfl ?_)
          obtain ⟨c10, h⟩ := gG h
          refine XK.st (some 64) rfl rfl (sf_idxA (l := v4_1_4) (i := v5_3) rfl TT.slcA_94 lay_S rfl rfl c10 ?_)
          refine XK.st (some 65) rfl rfl (sf_ldC (d := .val (sV (idx v4_1_4 v5_3))) rfl TT.tyA_9 rfl (LdC.one) ?_)
          refine XK.st (some 66) rfl rfl (sf_seq (a := (idx v4_1_4 v5_3)) (b := ([] : List UInt8)) rfl rfl rfl ?_)
          refine XK.st (some 67) rfl rfl (sf_move (v := .d (.val (.bool ((idx v4_1_4 v5_3) == ([] : List UInt8))))) rfl rfl ?_)
          refine XK.gd (v := .vptr 0 1) (T := []) (some 68) rfl rfl (by repeat (first | exact trivial | refine And.intro (fun hg => by first | rfl | exact hg | exact (Bool.and_eq_true_iff.mp hg).1 | exact (Bool.and_eq_true_iff.mp (Bool.and_eq_true_iff.mp hg).1).1) ?_)) (fun hg => sf_fldV rfl TT.fldA_96_1 (by decide) rfl ⟨⟨rfl, rfl, rfl⟩, rfl, Imp.refl⟩) (fun _ _ hi => nomatch hi) ?_
          refine XK.gd (v := .d (.slice (v4_1_4.map eS))) (T := [0]) (some 69) rfl rfl (by repeat (first | exact trivial | refine And.intro (fun hg => by first | rfl | exact hg | exact (Bool.and_eq_true_iff.mp hg).1 | exact (Bool.and_eq_true_iff.mp (Bool.and_eq_true_iff.mp hg).1).1) ?_)) (fun hg => sf_ldV (v := .d (.slice (v4_1_4.map eS))) rfl TT.tyA_94 rfl rfl ⟨⟨by simp, by simp⟩, rfl⟩ ⟨⟨rfl, rfl, rfl⟩, rfl, Imp.refl⟩) (fun _ i hi => by simp only [List.mem_singleton] at hi; subst hi; decide) ?_
          refine XK.gd (v := .d (.val (.int .i64 v5_3))) (T := []) (some 70) rfl rfl (by repeat (first | exact trivial | refine And.intro (fun hg => by first | rfl | exact hg | exact (Bool.and_eq_true_iff.mp hg).1 | exact (Bool.and_eq_true_iff.mp (Bool.and_eq_true_iff.mp hg).1).1) ?_)) (fun hg => sf_move (v := .d (.val (.int .i64 v5_3))) rfl rfl ⟨⟨rfl, rfl, rfl⟩, rfl, Imp.refl⟩) (fun _ _ hi => nomatch hi) ?_
          obtain ⟨c11, h⟩ := gG h
          refine XK.gd (v := .d (.cptr ([.val (sV (idx v4_1_4 v5_3))]))) (T := []) (some 71) rfl rfl (by repeat (first | exact trivial | refine And.intro (fun hg => by first | rfl | exact hg | exact (Bool.and_eq_true_iff.mp hg).1 | exact (Bool.and_eq_true_iff.mp (Bool.and_eq_true_iff.mp hg).1).1) ?_)) (fun hg => sf_idxA (l := v4_1_4) (i := v5_3) rfl TT.slcA_94 lay_S rfl rfl (c11 (eqB hg)) ⟨⟨rfl, rfl, rfl⟩, rfl, Imp.refl⟩) (fun _ _ hi => nomatch hi) ?_
          refine XK.gd (v := .d (.val (sV (idx v4_1_4 v5_3)))) (T := []) (some 72) rfl rfl (by repeat (first | exact trivial | refine And.intro (fun hg => by first | rfl | exact hg | exact (Bool.and_eq_true_iff.mp hg).1 | exact (Bool.and_eq_true_iff.mp (Bool.and_eq_true_iff.mp hg).1).1) ?_)) (fun hg => sf_ldC (d := .val (sV (idx v4_1_4 v5_3))) rfl TT.tyA_9 rfl (LdC.one) ⟨⟨rfl, rfl, rfl⟩, rfl, Imp.refl⟩) (fun _ _ hi => nomatch hi) ?_
          refine XK.gd (v := .d (.val (.int .i64 ((idx v4_1_4 v5_3).length : Int)))) (T := []) (some 73) rfl rfl (by repeat (first | exact trivial | refine And.intro (fun hg => by first | rfl | exact hg | exact (Bool.and_eq_true_iff.mp hg).1 | exact (Bool.and_eq_true_iff.mp (Bool.and_eq_true_iff.mp hg).1).1) ?_)) (fun hg => sf_lenS (l := (idx v4_1_4 v5_3)) rfl TT.under_9 rfl ⟨⟨rfl, rfl, rfl⟩, rfl, Imp.refl⟩) (fun _ _ hi => nomatch hi) ?_
          refine XK.gd (v := .d (.val (.bool (decide ((66000 : Int) < ((idx v4_1_4 v5_3).length : Int)))))) (T := []) (some 74) rfl rfl (by repeat (first | exact trivial | refine And.intro (fun hg => by first | rfl | exact hg | exact (Bool.and_eq_true_iff.mp hg).1 | exact (Bool.and_eq_true_iff.mp (Bool.and_eq_true_iff.mp hg).1).1) ?_)) (fun hg => sf_gtr (a := ((idx v4_1_4 v5_3).length : Int)) (b := (66000 : Int)) rfl rfl rfl ⟨⟨rfl, rfl, rfl⟩, rfl, Imp.refl⟩) (fun _ _ hi => nomatch hi) ?_
          refine XK.st (some 75) rfl rfl (sf_pickO rfl rfl rfl rfl (fun _ => rfl) (fun hb => by rw [hb]; rfl) ?_)
          refine XK.nil (nrm ?_)
          refine QW.cond (t := (((idx v4_1_4 v5_3) == ([] : List UInt8)) || (decide ((66000 : Int) < ((idx v4_1_4 v5_3).length : Int))))) rfl (Nat.zero_le _) (fun hb12 => ?_) (fun hb12 => ?_)
          · replace h := bGT h hb12
            refine QW.seq ?_
            refine QW.region (Nat.zero_le _) (PW.regT (by kernel_rfl) ?_)
            refine XK.st (some 2) rfl rfl (sf_assign (v := .d (.val (.bool false))) rfl rfl ?_)
            refine XK.nil (nrm ?_)
            refine QW.ret (Nat.zero_le _) (blR (thR (thR (blR (blR (thR (thR (blR (thR ?_)))))))))
            obtain rfl := sG h
            exact Ends.one (.inr rfl) rfl (ResIs.tmp rfl) rfl rfl
          · replace h := bGF h hb12
            refine QW.skip (Nat.zero_le _) (blN (nrm ?_))
            refine QW.region (Nat.zero_le _) (PW.regT (by kernel_rfl) ?_)
            refine XK.st (some 59) rfl rfl (sf_move (v := .d (.val (.int .i64 v5_3))) rfl rfl ?_)
            obtain ⟨c13, h⟩ := gG h
            refine XK.st (some 60) rfl rfl (sf_add (a := v5_3) (b := (1 : Int)) rfl rfl rfl c13 ?_)
            refine XK.st (some 5) rfl rfl (sf_assign (v := .d (.val (.int .i64 (v5_3 + (1 : Int))))) rfl rfl ?_)
            refine XK.nil (nrm ?_)
            exact ⟨k8, by omega, ⟨tab [(1, .d (.cptr (cWitness w0))), (3, .d (.val (.int .i64 v3_5))), (4, .vptr 0 0), (5, .d (.val (.int .i64 (v5_3 + (1 : Int)))))], tabH [.var [.d (.val (.int .i64 v4_0_4)), .d (.slice (v4_1_4.map eS))]], 1, []⟩, View.mk 1 [0] _ _ _ rfl rfl (by decide) (And.intro (Imp.of_eq rfl) (And.intro (Imp.of_eq rfl) (And.intro (Imp.of_eq rfl) (And.intro (Imp.of_eq rfl) trivial)))) (And.intro rfl trivial) rfl (Nat.zero_le _) rfl, v3_5, (v5_3 + (1 : Int)), v4_0_4, v4_1_4, by omega, jG h, rfl⟩
        · replace h := bGF h hb9
          refine QW.exit (Nat.zero_le _) (thX (thX (exE (blN (nrm ?_)))))
          refine QW.region (Nat.zero_le _) (PW.regT (by kernel_rfl) ?_)
          refine XK.st (some 21) rfl rfl (sf_move (v := .d (.val (.int .i64 v3_5))) rfl rfl ?_)
          obtain ⟨c14, h⟩ := gG h
          refine XK.st (some 22) rfl rfl (sf_add (a := v3_5) (b := (1 : Int)) rfl rfl rfl c14 ?_)
          refine XK.st (some 3) rfl rfl (sf_assign (v := .d (.val (.int .i64 (v3_5 + (1 : Int))))) rfl rfl ?_)
          refine XK.nil (nrm ?_)
          exact ⟨k8, by omega, ⟨tab [(1, .d (.cptr (cWitness w0))), (3, .d (.val (.int .i64 (v3_5 + (1 : Int)))))], tabH [], 0, []⟩, View.mk 0 [] _ _ _ rfl rfl (by decide) (And.intro (Imp.of_eq rfl) (And.intro (Imp.of_eq rfl) trivial)) trivial rfl (Nat.zero_le _) rfl, (v3_5 + (1 : Int)), by omega, jG h, rfl⟩
    · replace h := bGF h hb3
      refine QW.exit (Nat.zero_le _) (thX (thX (exE (nrm ?_))))
      refine QW.seq ?_
      refine QW.region (Nat.zero_le _) (PW.regT (by kernel_rfl) ?_)
      refine XK.st (some 2) rfl rfl (sf_assign (v := .d (.val (.bool true))) rfl rfl ?_)
      refine XK.nil (nrm ?_)
      refine QW.ret (Nat.zero_le _) ?_
      obtain rfl := sG h
      exact Ends.one (.inr rfl) rfl (ResIs.tmp rfl) rfl rfl

noncomputable def gs_ref15_number (self : Int → Option (List UInt8)) (n0 : Int) : Option (List UInt8) :=
    (bif (decide (n0 = (0 : Int))) then
    some ([] : List UInt8)
    else
    gO ((256 : Int) ≠ 0 ∧ inI (n0.tdiv (256 : Int))) (
    ((self (n0.tdiv (256 : Int))).bind fun (x3 : (List UInt8)) =>
    gO (x3.length + ([(u8I (n0.tmod (256 : Int)))] : List UInt8).length ≤ 9223372036854775807) (
    some (x3 ++ ([(u8I (n0.tmod (256 : Int)))] : List UInt8))))))

set_option maxRecDepth 20000 in
set_option maxHeartbeats 4000000 in
theorem sims_ref15_number (self : Int → Option (List UInt8)) (hself : ∀ (y0 : Int) (rr : (List UInt8)), self y0 = some rr → Fun Try.prog 115 [.val (.int .i64 y0)] (.val (sV rr))) (n0 : Int) (r : (List UInt8)) (h : gs_ref15_number self n0 = some r) : Fun Try.prog 115 [.val (.int .i64 n0)] (.val (sV r)) := by
  refine Fun.of_bodyQ Try.func115 rfl (by simp [Try.ntmps115]) ?_
  rw [Try.ntmps115, TT.res_115]
  refine QW.view (s' := ⟨tab [(0, .d (.val (.int .i64 n0)))], tabH [], 0, []⟩) (View.init (by rfl)) (Nat.zero_le _) ?_
  unfold gs_ref15_number at h
  refine QW.seq ?_
  refine QW.region (Nat.zero_le _) (PW.regT (by kernel_rfl) ?_)
  refine XK.st (some 2) rfl rfl (sf_assign (v := .d (.val (sV ([] : List UInt8)))) rfl rfl ?_)
  refine XK.nil (nrm ?_)
  refine QW.seq ?_
  refine QW.seq ?_
  refine QW.region (Nat.zero_le _) (PW.regT (by kernel_rfl) ?_)
  refine XK.st (some 3) rfl rfl (sf_move (v := .d (.val (.int .i64 n0))) rfl rfl ?_)
  refine XK.st (some 4) rfl rfl (sf_eq (a := n0) (b := (0 : Int)) rfl rfl rfl ?_)
  refine XK.nil (nrm ?_)
  refine QW.cond (t := (decide (n0 = (0 : Int)))) rfl (Nat.zero_le _) (fun hb1 => ?_) (fun hb1 => ?_)
  · replace h := bT h hb1
    refine QW.seq ?_
    refine QW.region (Nat.zero_le _) (PW.regT (by kernel_rfl) ?_)
    refine XK.st (some 2) rfl rfl (sf_assign (v := .d (.val (sV ([] : List UInt8)))) rfl rfl ?_)
    refine XK.nil (nrm ?_)
    refine QW.ret (Nat.zero_le _) (thR ?_)
    obtain rfl := sO h
    exact Ends.one (.inr rfl) rfl (ResIs.tmp rfl) rfl rfl
  · replace h := bF h hb1
    refine QW.skip (Nat.zero_le _) (nrm ?_)
    refine QW.seq ?_
    refine QW.region (Nat.zero_le _) (PW.regQ (id := 3) mixedX (M := _) rfl (by kernel_rfl) ?_)
    refine RQ.st (some 5) rfl rfl (sf_move (v := .d (.val (.int .i64 n0))) rfl rfl ⟨⟨rfl, rfl⟩, ?_⟩)
    obtain ⟨c2, h⟩ := gO_get h
    refine RQ.st (some 6) rfl rfl (sf_quo (a := n0) (b := (256 : Int)) rfl rfl rfl c2 ⟨⟨rfl, rfl⟩, ?_⟩)
    obtain ⟨x3, hx4, h⟩ := bO h
    refine RQ.st (some 7) rfl rfl (sf_call rfl rfl TT.enters_115 rfl (hself (n0.tdiv (256 : Int)) _ hx4) ⟨⟨rfl, rfl⟩, ?_⟩)
    refine RQ.st (some 8) rfl rfl (sf_move (v := .d (.val (.int .i64 n0))) rfl rfl ⟨⟨rfl, rfl⟩, ?_⟩)
    refine RQ.st (some 9) rfl rfl (sf_rem (a := n0) (b := (256 : Int)) rfl rfl rfl (by decide) ⟨⟨rfl, rfl⟩, ?_⟩)
    refine RQ.st (some 10) rfl rfl (sf_toU8 (n := (n0.tmod (256 : Int))) rfl TT.under_3 TT.under_5 rfl ⟨⟨rfl, rfl⟩, ?_⟩)
    refine RQ.st (some 11) rfl rfl (sf_row (en := byteD) (l := ([(u8I (n0.tmod (256 : Int)))] : List UInt8)) rfl TT.rowA_37 lay_byte rfl rfl (by decide) (by simp [solids, partsP, evP, ofVal, PV.solid, putS_at, tab, unS, unT, unC, asCond, Value.oneCell']) ⟨⟨rfl, rfl⟩, ?_⟩)
    refine RQ.st (some 12) rfl rfl (sf_b2s (l := ([(u8I (n0.tmod (256 : Int)))] : List UInt8)) rfl TT.under_37 TT.under_5 TT.under_9 rfl ⟨⟨rfl, rfl⟩, ?_⟩)
    obtain ⟨c5, h⟩ := gO_get h
    refine RQ.st (some 13) rfl rfl (sf_cat (a := x3) (b := ([(u8I (n0.tmod (256 : Int)))] : List UInt8)) rfl rfl rfl c5 ⟨⟨rfl, rfl⟩, ?_⟩)
    refine RQ.st (some 2) rfl rfl (sf_assign (v := .d (.val (sV (x3 ++ ([(u8I (n0.tmod (256 : Int)))] : List UInt8))))) rfl rfl ⟨⟨rfl, rfl⟩, ?_⟩)
    refine RQ.nil (nrm ?_)
    refine QW.ret (Nat.zero_le _) ?_
    obtain rfl := sO h
    exact Ends.one (.inr rfl) rfl (ResIs.tmp rfl) rfl rfl

noncomputable def rec_ref15_number : Nat → Int → Option (List UInt8)
  | 0 => fun _ => none
  | n + 1 => fun y0 => gs_ref15_number (rec_ref15_number n) y0

theorem simr_ref15_number : ∀ (n : Nat) (y0 : Int) (rr : (List UInt8)), rec_ref15_number n y0 = some rr → Fun Try.prog 115 [.val (.int .i64 y0)] (.val (sV rr))
  | 0, _, _, h => by cases h
  | n + 1, y0, rr, h => sims_ref15_number (rec_ref15_number n) (simr_ref15_number n) y0 rr h

noncomputable def g_ref15_number (y0 : Int) : Option (List UInt8) := theR (fun n => rec_ref15_number n y0)

theorem sim_ref15_number (y0 : Int) (rr : (List UInt8)) (h : g_ref15_number y0 = some rr) : Fun Try.prog 115 [.val (.int .i64 y0)] (.val (sV rr)) := by
  obtain ⟨n, hn⟩ := theR_get h
  exact simr_ref15_number n y0 rr hn

inductive C_ref15_Item where
  | S
  | L1 (v4 : Int) (v3_2 : (List Item))
  | L2 (v4_5 : Int) (v6_3 : Int) (v3_2_5 : (List Item)) (v5_2_3 : (List Item))
  | L3 (v7 : (List UInt8)) (v8 : Int) (v3_2_7 : (List Item))

noncomputable def step_ref15_Item (w0 : Witness) : C_ref15_Item → Option (C_ref15_Item ⊕ Item)
  | .S =>
    some (.inl (.L1 (0) ([] : (List Item))))
  | .L1 v4 v3_2 =>
    (bif (decide (v4 < ((w0.fLinks).length : Int))) then
    some (.inl (.L2 v4 (0) v3_2 ([] : (List Item))))
    else
    some (.inl (.L3 ([] : List UInt8) (0) v3_2)))
  | .L2 v4_5 v6_3 v3_2_5 v5_2_3 =>
    gO (0 ≤ v4_5 ∧ v4_5 < ((w0.fLinks).length : Int)) (
    (bif (decide (v6_3 < (((idx (w0.fLinks) v4_5).fProof).length : Int))) then
    gO (0 ≤ v4_5 ∧ v4_5 < ((w0.fLinks).length : Int)) (
    gO (0 ≤ v6_3 ∧ v6_3 < (((idx (w0.fLinks) v4_5).fProof).length : Int)) (
    gO ((v5_2_3.length + ([(⟨false, (idx ((idx (w0.fLinks) v4_5).fProof) v6_3), ([] : (List Item))⟩ : Item)] : List Item).length) * 48 ≤ 140737488355328) (
    gO (inI (v6_3 + (1 : Int))) (
    some (.inl (.L2 v4_5 (v6_3 + (1 : Int)) v3_2_5 (v5_2_3 ++ ([(⟨false, (idx ((idx (w0.fLinks) v4_5).fProof) v6_3), ([] : (List Item))⟩ : Item)] : List Item))))))))
    else
    gO (0 ≤ v4_5 ∧ v4_5 < ((w0.fLinks).length : Int)) (
    ((g_ref15_number ((idx (w0.fLinks) v4_5).fEpoch)).bind fun (x11 : (List UInt8)) =>
    gO ((v3_2_5.length + ([(⟨true, ([] : List UInt8), ([(⟨false, x11, ([] : (List Item))⟩ : Item), (⟨true, ([] : List UInt8), v5_2_3⟩ : Item)] : List Item)⟩ : Item)] : List Item).length) * 48 ≤ 140737488355328) (
    gO (inI (v4_5 + (1 : Int))) (
    some (.inl (.L1 (v4_5 + (1 : Int)) (v3_2_5 ++ ([(⟨true, ([] : List UInt8), ([(⟨false, x11, ([] : (List Item))⟩ : Item), (⟨true, ([] : List UInt8), v5_2_3⟩ : Item)] : List Item)⟩ : Item)] : List Item))))))))))
  | .L3 v7 v8 v3_2_7 =>
    (bif (decide (v8 < (32 : Int))) then
    gO (0 ≤ v8 ∧ v8 < ((32 : Nat) : Int)) (
    gO (v7.length + ([(idx (w0.fKey).1 v8)] : List UInt8).length ≤ 9223372036854775807) (
    gO (inI (v8 + (1 : Int))) (
    some (.inl (.L3 (v7 ++ ([(idx (w0.fKey).1 v8)] : List UInt8)) (v8 + (1 : Int)) v3_2_7)))))
    else
    some (.inr (⟨true, ([] : List UInt8), ([(⟨false, v7, ([] : (List Item))⟩ : Item), (⟨true, ([] : List UInt8), v3_2_7⟩ : Item)] : List Item)⟩ : Item)))

noncomputable def g_ref15_Item (w0 : Witness) : Option Item := theC (step_ref15_Item w0) .S

set_option maxRecDepth 20000 in
set_option maxHeartbeats 4000000 in
theorem sim_ref15_Item (w0 : Witness) (r : Item) (h : g_ref15_Item w0 = some r) : Fun Try.prog 80 [.agg (cWitness w0)] (.agg (cItem r)) := by
  refine Fun.of_bodyQ Try.func80 rfl (by simp [Try.ntmps80]) ?_
  rw [Try.ntmps80, TT.res_80]
  refine QW.view (s' := ⟨tab [(0, .d (.agg (cWitness w0)))], tabH [], 0, []⟩) (View.init (by rfl)) (Nat.zero_le _) ?_
  replace h := theC_get h
  obtain ⟨_, h⟩ := h
  obtain ⟨k0, rfl, h9⟩ := run_succ h; replace h := h9; clear h9
  refine QW.seq ?_
  refine QW.region (Nat.zero_le _) (PW.regT (by kernel_rfl) ?_)
  refine XK.fz (some 1) rfl rfl (sf_boxF (ds := cWitness w0) rfl rfl rfl rfl toDs_map ?_)
  refine XK.st (some 2) rfl rfl (sf_alloc (l := [.d (.val (.bool false)), .d (.val (sV ([] : List UInt8))), .full (([] : (List Item)).map eItem)]) rfl TT.zeroA_80 rfl rfl ?_)
  refine XK.nil (nrm ?_)
  refine QW.seq ?_
  refine QW.region (Nat.zero_le _) (PW.regT (by kernel_rfl) ?_)
  refine XK.st (some 9) rfl rfl (sf_bld (v := .agg [.d (.val (.bool true)), .d (.val (sV ([] : List UInt8))), .full (([] : (List Item)).map eItem)]) rfl TT.bldA_80 (build_of rfl (fill_step (cells' := [.d (.val (.bool true)), .d (.val (sV ([] : List UInt8))), .full (([] : (List Item)).map eItem)]) rfl rfl rfl (Nat.le_of_ble_eq_true rfl) rfl fill_nil)) ?_)
  refine XK.st (some 3) rfl rfl (sf_alloc (l := [.d (.val (.bool false)), .d (.val (sV ([] : List UInt8))), .full (([] : (List Item)).map eItem)]) rfl TT.zeroA_80 rfl rfl ?_)
  refine XK.st none rfl rfl (sf_stV (l' := [.d (.val (.bool true)), .d (.val (sV ([] : List UInt8))), .full (([] : (List Item)).map eItem)]) rfl TT.tyA_80 rfl rfl rfl rfl rfl rfl (by simp) rfl ?_)
  refine XK.nil (nrm ?_)
  refine QW.seq ?_
  refine QW.seq ?_
  refine QW.region (Nat.zero_le _) (PW.regT (by kernel_rfl) ?_)
  refine XK.st (some 4) rfl rfl (sf_assign (v := .d (.val (.int .i64 (0)))) rfl rfl ?_)
  refine XK.nil (nrm ?_)
  refine QW.block ?_
  refine QW.loop (fun k σ => ∃ v4 : Int, ∃ v3_2 : (List Item), k ≤ k0 ∧ run (step_ref15_Item w0) k (.L1 v4 v3_2) = some r ∧ σ = ⟨tab [(1, .d (.cptr (cWitness w0))), (2, .vptr 0 0), (3, .vptr 1 0), (4, .d (.val (.int .i64 v4)))], tabH [.var [.d (.val (.bool false)), .d (.val (sV ([] : List UInt8))), .full (([] : (List Item)).map eItem)], .var [.d (.val (.bool true)), .d (.val (sV ([] : List UInt8))), .own 2 (v3_2.map eItem)], .spare 3 v3_2.length], 3, []⟩) k0 (Nat.zero_le _) ⟨⟨tab [(1, .d (.cptr (cWitness w0))), (2, .vptr 0 0), (3, .vptr 1 0), (4, .d (.val (.int .i64 (0))))], tabH [.var [.d (.val (.bool false)), .d (.val (sV ([] : List UInt8))), .full (([] : (List Item)).map eItem)], .var [.d (.val (.bool true)), .d (.val (sV ([] : List UInt8))), .own 2 (([] : (List Item)).map eItem)], .spare 3 ([] : (List Item)).length], 3, []⟩, View.trans (View.bufV 1 2 3 rfl rfl (Nat.zero_le _)) (View.mk 3 [0, 1, 2] _ _ _ rfl rfl (by decide) (And.intro (Imp.of_eq rfl) (And.intro (Imp.of_eq rfl) (And.intro (Imp.of_eq rfl) (And.intro (Imp.of_eq rfl) trivial)))) (And.intro rfl (And.intro rfl (And.intro rfl trivial))) rfl (Nat.zero_le _) rfl), 0, ([] : (List Item)), Nat.le_refl _, jG h, rfl⟩ ?_
  rintro k1s _ ⟨v4, v3_2, k1h, h, rfl⟩
  obtain ⟨k1, rfl, h9⟩ := run_succ h; replace h := h9; clear h9
  refine QW.seq ?_
  refine QW.seq ?_
  refine QW.region (Nat.zero_le _) (PW.regT (by kernel_rfl) ?_)
  refine XK.st (some 10) rfl rfl (sf_move (v := .d (.val (.int .i64 v4))) rfl rfl ?_)
  refine XK.st (some 11) rfl rfl (sf_fldC rfl TT.fldA_91_1 (by decide) rfl ?_)
  refine XK.st (some 12) rfl rfl (sf_ldC (d := .slice ((w0.fLinks).map eLink)) rfl TT.tyA_89 rfl (ldc_Witness_1 _) ?_)
  refine XK.st (some 13) rfl rfl (sf_lenL (en := eLink) (l := w0.fLinks) rfl TT.under_89 rfl ?_)
  refine XK.st (some 14) rfl rfl (sf_lss (a := v4) (b := ((w0.fLinks).length : Int)) rfl rfl rfl ?_)
  refine XK.nil (nrm ?_)
  refine QW.cond (t := (decide (v4 < ((w0.fLinks).length : Int)))) rfl (Nat.zero_le _) (fun hb2 => ?_) (fun hb2 => ?_)
  · replace h := bGT h hb2
    refine QW.skip (Nat.zero_le _) (nrm ?_)
    refine QW.seq ?_
    refine QW.block ?_
    refine QW.seq ?_
    refine QW.region (Nat.zero_le _) (PW.regT (by kernel_rfl) ?_)
    refine XK.st (some 17) rfl rfl (sf_bld (v := .agg [.d (.val (.bool true)), .d (.val (sV ([] : List UInt8))), .full (([] : (List Item)).map eItem)]) rfl TT.bldA_80 (build_of rfl (fill_step (cells' := [.d (.val (.bool true)), .d (.val (sV ([] : List UInt8))), .full (([] : (List Item)).map eItem)]) rfl rfl rfl (Nat.le_of_ble_eq_true rfl) rfl fill_nil)) ?_)
    refine XK.st (some 5) rfl rfl (sf_alloc (l := [.d (.val (.bool false)), .d (.val (sV ([] : List UInt8))), .full (([] : (List Item)).map eItem)]) rfl TT.zeroA_80 rfl rfl ?_)
    refine XK.st none rfl rfl (sf_stV (l' := [.d (.val (.bool true)), .d (.val (sV ([] : List UInt8))), .full (([] : (List Item)).map eItem)]) rfl TT.tyA_80 rfl rfl rfl rfl rfl rfl (by simp) rfl ?_)
    refine XK.nil (nrm ?_)
    refine QW.seq ?_
    refine QW.seq ?_
    refine QW.region (Nat.zero_le _) (PW.regT (by kernel_rfl) ?_)
    refine XK.st (some 6) rfl rfl (sf_assign (v := .d (.val (.int .i64 (0)))) rfl rfl ?_)
    refine XK.nil (nrm ?_)
    refine QW.block ?_
    refine QW.loop (fun k σ => ∃ v4_5 : Int, ∃ v6_3 : Int, ∃ v3_2_5 : (List Item), ∃ v5_2_3 : (List Item), k ≤ k1 ∧ run (step_ref15_Item w0) k (.L2 v4_5 v6_3 v3_2_5 v5_2_3) = some r ∧ σ = ⟨tab [(1, .d (.cptr (cWitness w0))), (2, .vptr 0 0), (3, .vptr 1 0), (4, .d (.val (.int .i64 v4_5))), (5, .vptr 3 0), (6, .d (.val (.int .i64 v6_3)))], tabH [.var [.d (.val (.bool false)), .d (.val (sV ([] : List UInt8))), .full (([] : (List Item)).map eItem)], .var [.d (.val (.bool true)), .d (.val (sV ([] : List UInt8))), .own 2 (v3_2_5.map eItem)], .spare 3 v3_2_5.length, .var [.d (.val (.bool true)), .d (.val (sV ([] : List UInt8))), .own 4 (v5_2_3.map eItem)], .spare 3 v5_2_3.length], 5, []⟩) k1 (Nat.zero_le _) ⟨⟨tab [(1, .d (.cptr (cWitness w0))), (2, .vptr 0 0), (3, .vptr 1 0), (4, .d (.val (.int .i64 v4))), (5, .vptr 3 0), (6, .d (.val (.int .i64 (0))))], tabH [.var [.d (.val (.bool false)), .d (.val (sV ([] : List UInt8))), .full (([] : (List Item)).map eItem)], .var [.d (.val (.bool true)), .d (.val (sV ([] : List UInt8))), .own 2 (v3_2.map eItem)], .spare 3 v3_2.length, .var [.d (.val (.bool true)), .d (.val (sV ([] : List UInt8))), .own 4 (([] : (List Item)).map eItem)], .spare 3 ([] : (List Item)).length], 5, []⟩, View.trans (View.bufV 3 2 3 rfl rfl (Nat.zero_le _)) (View.mk 5 [0, 1, 2, 3, 4] _ _ _ rfl rfl (by decide) (And.intro (Imp.of_eq rfl) (And.intro (Imp.of_eq rfl) (And.intro (Imp.of_eq rfl) (And.intro (Imp.of_eq rfl) (And.intro (Imp.of_eq rfl) (And.intro (Imp.of_eq rfl) trivial)))))) (And.intro rfl (And.intro rfl (And.intro rfl (And.intro rfl (And.intro rfl trivial))))) rfl (Nat.zero_le _) rfl), v4, 0, v3_2, ([] : (List Item)), Nat.le_refl _, jG h, rfl⟩ ?_
    rintro k3s _ ⟨v4_5, v6_3, v3_2_5, v5_2_3, k3h, h, rfl⟩
    obtain ⟨k3, rfl, h9⟩ := run_succ h; replace h := h9; clear h9
    refine QW.seq ?_
    refine QW.seq ?_
    refine QW.region (Nat.zero_le _) (PW.regT (by kernel_rfl) ?_)
    refine XK.st (some 18) rfl rfl (sf_move (v := .d (.val (.int .i64 v6_3))) rfl rfl ?_)
    refine XK.st (some 19) rfl rfl (sf_fldC rfl TT.fldA_91_1 (by decide) rfl ?_)
    refine XK.st (some 20) rfl rfl (sf_ldC (d := .slice ((w0.fLinks).map eLink)) rfl TT.tyA_89 rfl (ldc_Witness_1 _) ?_)
    refine XK.st (some 21) rfl rfl (sf_move (v := .d (.val (.int .i64 v4_5))) rfl rfl ?_)
    obtain ⟨c4, h⟩ := gG h
    refine XK.st (some 22) rfl rfl (sf_idxA (l := w0.fLinks) (i := v4_5) rfl TT.slcA_89 lay_Link rfl rfl c4 ?_)
    refine XK.st (some 23) rfl rfl (sf_fldC rfl TT.fldA_96_1 (by decide) rfl ?_)
    refine XK.st (some 24) rfl rfl (sf_ldC (d := .slice (((idx (w0.fLinks) v4_5).fProof).map eS)) rfl TT.tyA_94 rfl (LdC.one) ?_)
    refine XK.st (some 25) rfl rfl (sf_lenL (en := eS) (l := (idx (w0.fLinks) v4_5).fProof) rfl TT.under_94 rfl ?_)
    refine XK.st (some 26) rfl rfl (sf_lss (a := v6_3) (b := (((idx (w0.fLinks) v4_5).fProof).length : Int)) rfl rfl rfl ?_)
    refine XK.nil (nrm ?_)
    refine QW.cond (t := (decide (v6_3 < (((idx (w0.fLinks) v4_5).fProof).length : Int)))) rfl (Nat.zero_le _) (fun hb5 => ?_) (fun hb5 => ?_)
    · replace h := bGT h hb5
      refine QW.skip (Nat.zero_le _) (nrm ?_)
      refine QW.seq ?_
      refine QW.block ?_
      refine QW.region (Nat.zero_le _) (PW.regK (id := 9) mixedX (M := _) rfl (by kernel_rfl) ?_)
      refine RK.st (some 29) rfl rfl (sf_fldV rfl TT.fldA_80_2 (by decide) rfl ?_)
      refine RK.st (some 30) rfl rfl (sf_ldV (v := .own 4 (v5_2_3.map eItem)) rfl TT.tyA_78 rfl rfl ⟨⟨by simp, by simp⟩, rfl⟩ ?_)
      refine RK.st (some 31) rfl rfl (sf_fldC rfl TT.fldA_91_1 (by decide) rfl ?_)
      refine RK.st (some 32) rfl rfl (sf_ldC (d := .slice ((w0.fLinks).map eLink)) rfl TT.tyA_89 rfl (ldc_Witness_1 _) ?_)
      refine RK.st (some 33) rfl rfl (sf_move (v := .d (.val (.int .i64 v4_5))) rfl rfl ?_)
      obtain ⟨c6, h⟩ := gG h
      refine RK.st (some 34) rfl rfl (sf_idxA (l := w0.fLinks) (i := v4_5) rfl TT.slcA_89 lay_Link rfl rfl c6 ?_)
      refine RK.st (some 35) rfl rfl (sf_fldC rfl TT.fldA_96_1 (by decide) rfl ?_)
      refine RK.st (some 36) rfl rfl (sf_ldC (d := .slice (((idx (w0.fLinks) v4_5).fProof).map eS)) rfl TT.tyA_94 rfl (LdC.one) ?_)
      refine RK.st (some 37) rfl rfl (sf_move (v := .d (.val (.int .i64 v6_3))) rfl rfl ?_)
      obtain ⟨c7, h⟩ := gG h
      refine RK.st (some 38) rfl rfl (sf_idxA (l := (idx (w0.fLinks) v4_5).fProof) (i := v6_3) rfl TT.slcA_94 lay_S rfl rfl c7 ?_)
      refine RK.st (some 39) rfl rfl (sf_ldC (d := .val (sV (idx ((idx (w0.fLinks) v4_5).fProof) v6_3))) rfl TT.tyA_9 rfl (LdC.one) ?_)
      refine RK.st (some 40) rfl rfl (sf_bld (v := .agg [.d (.val (.bool false)), .d (.val (sV (idx ((idx (w0.fLinks) v4_5).fProof) v6_3))), .full (([] : (List Item)).map eItem)]) rfl TT.bldA_80 (build_of rfl (fill_step (cells' := [.d (.val (.bool false)), .d (.val (sV (idx ((idx (w0.fLinks) v4_5).fProof) v6_3))), .full (([] : (List Item)).map eItem)]) rfl rfl rfl (Nat.le_of_ble_eq_true rfl) rfl fill_nil)) ?_)
      refine RK.st (some 41) rfl rfl (sf_row (en := eItem) (l := ([(⟨false, (idx ((idx (w0.fLinks) v4_5).fProof) v6_3), ([] : (List Item))⟩ : Item)] : List Item)) rfl TT.rowA_78 lay_Item (by first | rfl | (simp only [List.map_cons, List.map_nil, eItem_eq]; rfl)) rfl (by decide) (by simp [solids, partsP, evP, ofVal, PV.solid, putS_at, tab, unS, unT, unC, asCond, Value.oneCell']) ?_)
      obtain ⟨c8, h⟩ := gG h
      refine RK.st (some 42) rfl rfl (sf_appO (en := eItem) (l := v5_2_3) (l2 := ([(⟨false, (idx ((idx (w0.fLinks) v4_5).fProof) v6_3), ([] : (List Item))⟩ : Item)] : List Item)) rfl TT.rowA_78 TT.under_78 rfl lay_Item rfl rfl rfl c8 (by decide) ?_)
      refine RK.st (some 43) rfl rfl (sf_fldV rfl TT.fldA_80_2 (by decide) rfl ?_)
      refine RK.st none rfl rfl (sf_stV (l' := [.d (.val (.bool true)), .d (.val (sV ([] : List UInt8))), .own 5 ((v5_2_3 ++ ([(⟨false, (idx ((idx (w0.fLinks) v4_5).fProof) v6_3), ([] : (List Item))⟩ : Item)] : List Item)).map eItem)]) rfl TT.tyA_78 rfl rfl rfl rfl rfl rfl (by simp) rfl ?_)
      refine RK.nil ⟨RecsOK.comp (by rfl), (blN (nrm ?_))⟩
      refine QW.view (s' := ⟨tab [(1, .d (.cptr (cWitness w0))), (2, .vptr 0 0), (3, .vptr 1 0), (4, .d (.val (.int .i64 v4_5))), (5, .vptr 3 0), (6, .d (.val (.int .i64 v6_3)))], tabH [.var [.d (.val (.bool false)), .d (.val (sV ([] : List UInt8))), .full (([] : (List Item)).map eItem)], .var [.d (.val (.bool true)), .d (.val (sV ([] : List UInt8))), .own 2 (v3_2_5.map eItem)], .spare 3 v3_2_5.length, .var [.d (.val (.bool true)), .d (.val (sV ([] : List UInt8))), .own 4 ((v5_2_3 ++ ([(⟨false, (idx ((idx (w0.fLinks) v4_5).fProof) v6_3), ([] : (List Item))⟩ : Item)] : List Item)).map eItem)], .spare 3 (v5_2_3 ++ ([(⟨false, (idx ((idx (w0.fLinks) v4_5).fProof) v6_3), ([] : (List Item))⟩ : Item)] : List Item)).length], 5, []⟩) (View.mk 5 [0, 1, 2, 3, 5] _ _ _ rfl rfl (by decide) (And.intro (Imp.of_eq rfl) (And.intro (Imp.of_eq rfl) (And.intro (Imp.of_eq rfl) (And.intro (Imp.of_eq rfl) (And.intro (Imp.of_eq rfl) (And.intro (Imp.of_eq rfl) trivial)))))) (And.intro rfl (And.intro rfl (And.intro rfl (And.intro rfl (And.intro rfl trivial))))) rfl (Nat.zero_le _) rfl) (Nat.zero_le _) ?_
      refine QW.region (Nat.zero_le _) (PW.regT (by kernel_rfl) ?_)
      refine XK.st (some 27) rfl rfl (sf_move (v := .d (.val (.int .i64 v6_3))) rfl rfl ?_)
      obtain ⟨c9, h⟩ := gG h
      refine XK.st (some 28) rfl rfl (sf_add (a := v6_3) (b := (1 : Int)) rfl rfl rfl c9 ?_)
      refine XK.st (some 6) rfl rfl (sf_assign (v := .d (.val (.int .i64 (v6_3 + (1 : Int))))) rfl rfl ?_)
      refine XK.nil (nrm ?_)
      exact ⟨k3, by omega, ⟨tab [(1, .d (.cptr (cWitness w0))), (2, .vptr 0 0), (3, .vptr 1 0), (4, .d (.val (.int .i64 v4_5))), (5, .vptr 3 0), (6, .d (.val (.int .i64 (v6_3 + (1 : Int)))))], tabH [.var [.d (.val (.bool false)), .d (.val (sV ([] : List UInt8))), .full (([] : (List Item)).map eItem)], .var [.d (.val (.bool true)), .d (.val (sV ([] : List UInt8))), .own 2 (v3_2_5.map eItem)], .spare 3 v3_2_5.length, .var [.d (.val (.bool true)), .d (.val (sV ([] : List UInt8))), .own 4 ((v5_2_3 ++ ([(⟨false, (idx ((idx (w0.fLinks) v4_5).fProof) v6_3), ([] : (List Item))⟩ : Item)] : List Item)).map eItem)], .spare 3 (v5_2_3 ++ ([(⟨false, (idx ((idx (w0.fLinks) v4_5).fProof) v6_3), ([] : (List Item))⟩ : Item)] : List Item)).length], 5, []⟩, View.mk 5 [0, 1, 2, 3, 4] _ _ _ rfl rfl (by decide) (And.intro (Imp.of_eq rfl) (And.intro (Imp.of_eq rfl) (And.intro (Imp.of_eq rfl) (And.intro (Imp.of_eq rfl) (And.intro (Imp.of_eq rfl) (And.intro (Imp.of_eq rfl) trivial)))))) (And.intro rfl (And.intro rfl (And.intro rfl (And.intro rfl (And.intro rfl trivial))))) rfl (Nat.zero_le _) rfl, v4_5, (v6_3 + (1 : Int)), v3_2_5, (v5_2_3 ++ ([(⟨false, (idx ((idx (w0.fLinks) v4_5).fProof) v6_3), ([] : (List Item))⟩ : Item)] : List Item)), by omega, jG h, rfl⟩
    · replace h := bGF h hb5
      refine QW.exit (Nat.zero_le _) (thX (thX (exE (nrm ?_))))
      refine QW.region (Nat.zero_le _) (PW.regK (id := 10) mixedX (M := _) rfl (by kernel_rfl) ?_)
      refine RK.st (some 44) rfl rfl (sf_fldV rfl TT.fldA_80_2 (by decide) rfl ?_)
      refine RK.st (some 45) rfl rfl (sf_ldV (v := .own 2 (v3_2_5.map eItem)) rfl TT.tyA_78 rfl rfl ⟨⟨by simp, by simp⟩, rfl⟩ ?_)
      refine RK.st (some 46) rfl rfl (sf_fldC rfl TT.fldA_91_1 (by decide) rfl ?_)
      refine RK.st (some 47) rfl rfl (sf_ldC (d := .slice ((w0.fLinks).map eLink)) rfl TT.tyA_89 rfl (ldc_Witness_1 _) ?_)
      refine RK.st (some 48) rfl rfl (sf_move (v := .d (.val (.int .i64 v4_5))) rfl rfl ?_)
      obtain ⟨c10, h⟩ := gG h
      refine RK.st (some 49) rfl rfl (sf_idxA (l := w0.fLinks) (i := v4_5) rfl TT.slcA_89 lay_Link rfl rfl c10 ?_)
      refine RK.st (some 50) rfl rfl (sf_fldC rfl TT.fldA_96_0 (by decide) rfl ?_)
      refine RK.st (some 51) rfl rfl (sf_ldC (d := .val (.int .i64 ((idx (w0.fLinks) v4_5).fEpoch))) rfl TT.tyA_3 rfl (LdC.one) ?_)
      obtain ⟨x11, hx12, h⟩ := bG h
      refine RK.st (some 52) rfl rfl (sf_call rfl rfl TT.enters_115 rfl (sim_ref15_number ((idx (w0.fLinks) v4_5).fEpoch) _ hx12) ?_)
      refine RK.st (some 53) rfl rfl (sf_bld (v := .agg [.d (.val (.bool false)), .d (.val (sV x11)), .full (([] : (List Item)).map eItem)]) rfl TT.bldA_80 (build_of rfl (fill_step (cells' := [.d (.val (.bool false)), .d (.val (sV x11)), .full (([] : (List Item)).map eItem)]) rfl rfl rfl (Nat.le_of_ble_eq_true rfl) rfl fill_nil)) ?_)
      refine RK.st (some 54) rfl rfl (sf_ldV (v := .agg [.d (.val (.bool true)), .d (.val (sV ([] : List UInt8))), .own 4 (v5_2_3.map eItem)]) rfl TT.tyA_80 rfl rfl ⟨⟨by simp, by simp⟩, rfl⟩ ?_)
      refine RK.st (some 55) rfl rfl (sf_row (en := eItem) (l := ([(⟨false, x11, ([] : (List Item))⟩ : Item), (⟨true, ([] : List UInt8), v5_2_3⟩ : Item)] : List Item)) rfl TT.rowA_78 lay_Item (by first | rfl | (simp only [List.map_cons, List.map_nil, eItem_eq]; rfl)) rfl (by decide) (by simp [solids, partsP, evP, ofVal, PV.solid, putS_at, tab, unS, unT, unC, asCond, Value.oneCell']) ?_)
      refine RK.st (some 56) rfl rfl (sf_bld (v := .agg [.d (.val (.bool true)), .d (.val (sV ([] : List UInt8))), .full (([(⟨false, x11, ([] : (List Item))⟩ : Item), (⟨true, ([] : List UInt8), v5_2_3⟩ : Item)] : List Item).map eItem)]) rfl TT.bldA_80 (build_of rfl (fill_step (cells' := [.d (.val (.bool true)), .d (.val (sV ([] : List UInt8))), .full (([] : (List Item)).map eItem)]) rfl rfl rfl (Nat.le_of_ble_eq_true rfl) rfl (fill_step (cells' := [.d (.val (.bool true)), .d (.val (sV ([] : List UInt8))), .full (([(⟨false, x11, ([] : (List Item))⟩ : Item), (⟨true, ([] : List UInt8), v5_2_3⟩ : Item)] : List Item).map eItem)]) rfl rfl rfl (Nat.le_of_ble_eq_true rfl) rfl fill_nil))) ?_)
      refine RK.st (some 57) rfl rfl (sf_row (en := eItem) (l := ([(⟨true, ([] : List UInt8), ([(⟨false, x11, ([] : (List Item))⟩ : Item), (⟨true, ([] : List UInt8), v5_2_3⟩ : Item)] : List Item)⟩ : Item)] : List Item)) rfl TT.rowA_78 lay_Item (by first | rfl | (simp only [List.map_cons, List.map_nil, eItem_eq]; rfl)) rfl (by decide) (by simp [solids, partsP, evP, ofVal, PV.solid, putS_at, tab, unS, unT, unC, asCond, Value.oneCell']) ?_)
      obtain ⟨c13, h⟩ := gG h
      refine RK.st (some 58) rfl rfl (sf_appO (en := eItem) (l := v3_2_5) (l2 := ([(⟨true, ([] : List UInt8), ([(⟨false, x11, ([] : (List Item))⟩ : Item), (⟨true, ([] : List UInt8), v5_2_3⟩ : Item)] : List Item)⟩ : Item)] : List Item)) rfl TT.rowA_78 TT.under_78 rfl lay_Item rfl rfl rfl c13 (by decide) ?_)
      refine RK.st (some 59) rfl rfl (sf_fldV rfl TT.fldA_80_2 (by decide) rfl ?_)
      refine RK.st none rfl rfl (sf_stV (l' := [.d (.val (.bool true)), .d (.val (sV ([] : List UInt8))), .own 5 ((v3_2_5 ++ ([(⟨true, ([] : List UInt8), ([(⟨false, x11, ([] : (List Item))⟩ : Item), (⟨true, ([] : List UInt8), v5_2_3⟩ : Item)] : List Item)⟩ : Item)] : List Item)).map eItem)]) rfl TT.tyA_78 rfl rfl rfl rfl rfl rfl (by simp) rfl ?_)
      refine RK.nil ⟨RecsOK.comp (by rfl), (blN (nrm ?_))⟩
      refine QW.view (s' := ⟨tab [(1, .d (.cptr (cWitness w0))), (2, .vptr 0 0), (3, .vptr 1 0), (4, .d (.val (.int .i64 v4_5)))], tabH [.var [.d (.val (.bool false)), .d (.val (sV ([] : List UInt8))), .full (([] : (List Item)).map eItem)], .var [.d (.val (.bool true)), .d (.val (sV ([] : List UInt8))), .own 2 ((v3_2_5 ++ ([(⟨true, ([] : List UInt8), ([(⟨false, x11, ([] : (List Item))⟩ : Item), (⟨true, ([] : List UInt8), v5_2_3⟩ : Item)] : List Item)⟩ : Item)] : List Item)).map eItem)], .spare 3 (v3_2_5 ++ ([(⟨true, ([] : List UInt8), ([(⟨false, x11, ([] : (List Item))⟩ : Item), (⟨true, ([] : List UInt8), v5_2_3⟩ : Item)] : List Item)⟩ : Item)] : List Item)).length], 3, []⟩) (View.mk 3 [0, 1, 5] _ _ _ rfl rfl (by decide) (And.intro (Imp.of_eq rfl) (And.intro (Imp.of_eq rfl) (And.intro (Imp.of_eq rfl) (And.intro (Imp.of_eq rfl) trivial)))) (And.intro rfl (And.intro rfl (And.intro rfl trivial))) rfl (Nat.zero_le _) rfl) (Nat.zero_le _) ?_
      refine QW.region (Nat.zero_le _) (PW.regT (by kernel_rfl) ?_)
      refine XK.st (some 15) rfl rfl (sf_move (v := .d (.val (.int .i64 v4_5))) rfl rfl ?_)
      obtain ⟨c14, h⟩ := gG h
      refine XK.st (some 16) rfl rfl (sf_add (a := v4_5) (b := (1 : Int)) rfl rfl rfl c14 ?_)
      refine XK.st (some 4) rfl rfl (sf_assign (v := .d (.val (.int .i64 (v4_5 + (1 : Int))))) rfl rfl ?_)
      refine XK.nil (nrm ?_)
      exact ⟨k3, by omega, ⟨tab [(1, .d (.cptr (cWitness w0))), (2, .vptr 0 0), (3, .vptr 1 0), (4, .d (.val (.int .i64 (v4_5 + (1 : Int)))))], tabH [.var [.d (.val (.bool false)), .d (.val (sV ([] : List UInt8))), .full (([] : (List Item)).map eItem)], .var [.d (.val (.bool true)), .d (.val (sV ([] : List UInt8))), .own 2 ((v3_2_5 ++ ([(⟨true, ([] : List UInt8), ([(⟨false, x11, ([] : (List Item))⟩ : Item), (⟨true, ([] : List UInt8), v5_2_3⟩ : Item)] : List Item)⟩ : Item)] : List Item)).map eItem)], .spare 3 (v3_2_5 ++ ([(⟨true, ([] : List UInt8), ([(⟨false, x11, ([] : (List Item))⟩ : Item), (⟨true, ([] : List UInt8), v5_2_3⟩ : Item)] : List Item)⟩ : Item)] : List Item)).length], 3, []⟩, View.mk 3 [0, 1, 2] _ _ _ rfl rfl (by decide) (And.intro (Imp.of_eq rfl) (And.intro (Imp.of_eq rfl) (And.intro (Imp.of_eq rfl) (And.intro (Imp.of_eq rfl) trivial)))) (And.intro rfl (And.intro rfl (And.intro rfl trivial))) rfl (Nat.zero_le _) rfl, (v4_5 + (1 : Int)), (v3_2_5 ++ ([(⟨true, ([] : List UInt8), ([(⟨false, x11, ([] : (List Item))⟩ : Item), (⟨true, ([] : List UInt8), v5_2_3⟩ : Item)] : List Item)⟩ : Item)] : List Item)), by omega, jG h, rfl⟩
  · replace h := bGF h hb2
    refine QW.exit (Nat.zero_le _) (thX (thX (exE (nrm ?_))))
    refine QW.seq ?_
    refine QW.region (Nat.zero_le _) (PW.regT (by kernel_rfl) ?_)
    refine XK.st (some 7) rfl rfl (sf_assign (v := .d (.val (sV ([] : List UInt8)))) rfl rfl ?_)
    refine XK.nil (nrm ?_)
    refine QW.seq ?_
    refine QW.seq ?_
    refine QW.region (Nat.zero_le _) (PW.regT (by kernel_rfl) ?_)
    refine XK.st (some 8) rfl rfl (sf_assign (v := .d (.val (.int .i64 (0)))) rfl rfl ?_)
    refine XK.nil (nrm ?_)
    refine QW.block ?_
    refine QW.loop (fun k σ => ∃ v7 : (List UInt8), ∃ v8 : Int, ∃ v3_2_7 : (List Item), k ≤ k1 ∧ run (step_ref15_Item w0) k (.L3 v7 v8 v3_2_7) = some r ∧ σ = ⟨tab [(1, .d (.cptr (cWitness w0))), (2, .vptr 0 0), (3, .vptr 1 0), (7, .d (.val (sV v7))), (8, .d (.val (.int .i64 v8)))], tabH [.var [.d (.val (.bool false)), .d (.val (sV ([] : List UInt8))), .full (([] : (List Item)).map eItem)], .var [.d (.val (.bool true)), .d (.val (sV ([] : List UInt8))), .own 2 (v3_2_7.map eItem)], .spare 3 v3_2_7.length], 3, []⟩) k1 (Nat.zero_le _) ⟨⟨tab [(1, .d (.cptr (cWitness w0))), (2, .vptr 0 0), (3, .vptr 1 0), (7, .d (.val (sV ([] : List UInt8)))), (8, .d (.val (.int .i64 (0))))], tabH [.var [.d (.val (.bool false)), .d (.val (sV ([] : List UInt8))), .full (([] : (List Item)).map eItem)], .var [.d (.val (.bool true)), .d (.val (sV ([] : List UInt8))), .own 2 (v3_2.map eItem)], .spare 3 v3_2.length], 3, []⟩, View.mk 3 [0, 1, 2] _ _ _ rfl rfl (by decide) (And.intro (Imp.of_eq rfl) (And.intro (Imp.of_eq rfl) (And.intro (Imp.of_eq rfl) (And.intro (Imp.of_eq rfl) (And.intro (Imp.of_eq rfl) trivial))))) (And.intro rfl (And.intro rfl (And.intro rfl trivial))) rfl (Nat.zero_le _) rfl, ([] : List UInt8), 0, v3_2, Nat.le_refl _, jG h, rfl⟩ ?_
    rintro k15s _ ⟨v7, v8, v3_2_7, k15h, h, rfl⟩
    obtain ⟨k15, rfl, h9⟩ := run_succ h; replace h := h9; clear h9
    refine QW.seq ?_
    refine QW.seq ?_
    refine QW.region (Nat.zero_le _) (PW.regT (by kernel_rfl) ?_)
    refine XK.st (some 60) rfl rfl (sf_move (v := .d (.val (.int .i64 v8))) rfl rfl ?_)
    refine XK.st (some 61) rfl rfl (sf_lss (a := v8) (b := (32 : Int)) rfl rfl rfl ?_)
    refine XK.nil (nrm ?_)
    refine QW.cond (t := (decide (v8 < (32 : Int)))) rfl (Nat.zero_le _) (fun hb16 => ?_) (fun hb16 => ?_)
    · replace h := bGT h hb16
      refine QW.skip (Nat.zero_le _) (nrm ?_)
      refine QW.seq ?_
      refine QW.block ?_
      refine QW.region (Nat.zero_le _) (PW.regT (by kernel_rfl) ?_)
      refine XK.st (some 64) rfl rfl (sf_move (v := .d (.val (sV v7))) rfl rfl ?_)
      refine XK.st (some 65) rfl rfl (sf_move (v := .d (.val (.int .i64 v8))) rfl rfl ?_)
      refine XK.st (some 66) rfl rfl (sf_fldC rfl TT.fldA_91_0 (by decide) rfl ?_)
      obtain ⟨c17, h⟩ := gG h
      refine XK.st (some 67) rfl rfl (sf_idxC (i := v8) rfl TT.slcA_29 TT.arrA_29 rfl rfl c17 ?_)
      refine XK.st (some 68) rfl rfl (sf_ldC (d := .val (.int .u8 ((idx (w0.fKey).1 v8).toNat : Int))) rfl TT.tyA_5 rfl (ld_arr (pre_Witness_0 _) c17) ?_)
      refine XK.st (some 69) rfl rfl (sf_row (en := byteD) (l := ([(idx (w0.fKey).1 v8)] : List UInt8)) rfl TT.rowA_37 lay_byte rfl rfl (by decide) (by simp [solids, partsP, evP, ofVal, PV.solid, putS_at, tab, unS, unT, unC, asCond, Value.oneCell']) ?_)
      refine XK.st (some 70) rfl rfl (sf_b2s (l := ([(idx (w0.fKey).1 v8)] : List UInt8)) rfl TT.under_37 TT.under_5 TT.under_9 rfl ?_)
      obtain ⟨c18, h⟩ := gG h
      refine XK.st (some 71) rfl rfl (sf_cat (a := v7) (b := ([(idx (w0.fKey).1 v8)] : List UInt8)) rfl rfl rfl c18 ?_)
      refine XK.st (some 7) rfl rfl (sf_assign (v := .d (.val (sV (v7 ++ ([(idx (w0.fKey).1 v8)] : List UInt8))))) rfl rfl ?_)
      refine XK.nil (blN (nrm ?_))
      refine QW.region (Nat.zero_le _) (PW.regT (by kernel_rfl) ?_)
      refine XK.st (some 62) rfl rfl (sf_move (v := .d (.val (.int .i64 v8))) rfl rfl ?_)
      obtain ⟨c19, h⟩ := gG h
      refine XK.st (some 63) rfl rfl (sf_add (a := v8) (b := (1 : Int)) rfl rfl rfl c19 ?_)
      refine XK.st (some 8) rfl rfl (sf_assign (v := .d (.val (.int .i64 (v8 + (1 : Int))))) rfl rfl ?_)
      refine XK.nil (nrm ?_)
      exact ⟨k15, by omega, ⟨tab [(1, .d (.cptr (cWitness w0))), (2, .vptr 0 0), (3, .vptr 1 0), (7, .d (.val (sV (v7 ++ ([(idx (w0.fKey).1 v8)] : List UInt8))))), (8, .d (.val (.int .i64 (v8 + (1 : Int)))))], tabH [.var [.d (.val (.bool false)), .d (.val (sV ([] : List UInt8))), .full (([] : (List Item)).map eItem)], .var [.d (.val (.bool true)), .d (.val (sV ([] : List UInt8))), .own 2 (v3_2_7.map eItem)], .spare 3 v3_2_7.length], 3, []⟩, View.mk 3 [0, 1, 2] _ _ _ rfl rfl (by decide) (And.intro (Imp.of_eq rfl) (And.intro (Imp.of_eq rfl) (And.intro (Imp.of_eq rfl) (And.intro (Imp.of_eq rfl) (And.intro (Imp.of_eq rfl) trivial))))) (And.intro rfl (And.intro rfl (And.intro rfl trivial))) rfl (Nat.zero_le _) rfl, (v7 ++ ([(idx (w0.fKey).1 v8)] : List UInt8)), (v8 + (1 : Int)), v3_2_7, by omega, jG h, rfl⟩
    · replace h := bGF h hb16
      refine QW.exit (Nat.zero_le _) (thX (thX (exE (nrm ?_))))
      refine QW.seq ?_
      refine QW.region (Nat.zero_le _) (PW.regT (by kernel_rfl) ?_)
      refine XK.st (some 72) rfl rfl (sf_move (v := .d (.val (sV v7))) rfl rfl ?_)
      refine XK.st (some 73) rfl rfl (sf_bld (v := .agg [.d (.val (.bool false)), .d (.val (sV v7)), .full (([] : (List Item)).map eItem)]) rfl TT.bldA_80 (build_of rfl (fill_step (cells' := [.d (.val (.bool false)), .d (.val (sV v7)), .full (([] : (List Item)).map eItem)]) rfl rfl rfl (Nat.le_of_ble_eq_true rfl) rfl fill_nil)) ?_)
      refine XK.st (some 74) rfl rfl (sf_ldV (v := .agg [.d (.val (.bool true)), .d (.val (sV ([] : List UInt8))), .own 2 (v3_2_7.map eItem)]) rfl TT.tyA_80 rfl rfl ⟨⟨by simp, by simp⟩, rfl⟩ ?_)
      refine XK.st (some 75) rfl rfl (sf_row (en := eItem) (l := ([(⟨false, v7, ([] : (List Item))⟩ : Item), (⟨true, ([] : List UInt8), v3_2_7⟩ : Item)] : List Item)) rfl TT.rowA_78 lay_Item (by first | rfl | (simp only [List.map_cons, List.map_nil, eItem_eq]; rfl)) rfl (by decide) (by simp [solids, partsP, evP, ofVal, PV.solid, putS_at, tab, unS, unT, unC, asCond, Value.oneCell']) ?_)
      refine XK.st (some 76) rfl rfl (sf_bld (v := .agg [.d (.val (.bool true)), .d (.val (sV ([] : List UInt8))), .full (([(⟨false, v7, ([] : (List Item))⟩ : Item), (⟨true, ([] : List UInt8), v3_2_7⟩ : Item)] : List Item).map eItem)]) rfl TT.bldA_80 (build_of rfl (fill_step (cells' := [.d (.val (.bool true)), .d (.val (sV ([] : List UInt8))), .full (([] : (List Item)).map eItem)]) rfl rfl rfl (Nat.le_of_ble_eq_true rfl) rfl (fill_step (cells' := [.d (.val (.bool true)), .d (.val (sV ([] : List UInt8))), .full (([(⟨false, v7, ([] : (List Item))⟩ : Item), (⟨true, ([] : List UInt8), v3_2_7⟩ : Item)] : List Item).map eItem)]) rfl rfl rfl (Nat.le_of_ble_eq_true rfl) rfl fill_nil))) ?_)
      refine XK.st none rfl rfl (sf_stV (l' := [.d (.val (.bool true)), .d (.val (sV ([] : List UInt8))), .full (([(⟨false, v7, ([] : (List Item))⟩ : Item), (⟨true, ([] : List UInt8), v3_2_7⟩ : Item)] : List Item).map eItem)]) rfl TT.tyA_80 rfl rfl rfl rfl rfl rfl (by simp) rfl ?_)
      refine XK.nil (nrm ?_)
      refine QW.ret (Nat.zero_le _) ?_
      obtain rfl := sG h
      exact Ends.one (.inr rfl) rfl (ResIs.cell rfl rfl TT.tyA_80 ⟨⟨by simp, by simp⟩, rfl⟩) rfl rfl

inductive C_ref01_Same where
  | S
  | L1 (v5 : Int)

noncomputable def step_ref01_Same (a0 : (List (List UInt8))) (b1 : (List (List UInt8))) : C_ref01_Same → Option (C_ref01_Same ⊕ Bool)
  | .S =>
    (bif (!decide ((a0.length : Int) = (b1.length : Int))) then
    some (.inr false)
    else
    some (.inl (.L1 (0))))
  | .L1 v5 =>
    (bif (decide (v5 < (a0.length : Int))) then
    gO (0 ≤ v5 ∧ v5 < (a0.length : Int)) (
    gO (0 ≤ v5 ∧ v5 < (b1.length : Int)) (
    (bif (!((idx a0 v5) == (idx b1 v5))) then
    some (.inr false)
    else
    gO (inI (v5 + (1 : Int))) (
    some (.inl (.L1 (v5 + (1 : Int))))))))
    else
    some (.inr true))

noncomputable def g_ref01_Same (a0 : (List (List UInt8))) (b1 : (List (List UInt8))) : Option Bool := theC (step_ref01_Same a0 b1) .S

set_option maxRecDepth 20000 in
set_option maxHeartbeats 4000000 in
theorem sim_ref01_Same (a0 : (List (List UInt8))) (b1 : (List (List UInt8))) (r : Bool) (h : g_ref01_Same a0 b1 = some r) : Fun Try.prog 113 [.slice (a0.map eS), .slice (b1.map eS)] (.val (.bool r)) := by
  refine Fun.of_bodyQ Try.func113 rfl (by simp [Try.ntmps113]) ?_
  rw [Try.ntmps113, TT.res_113]
  refine QW.view (s' := ⟨tab [(0, .d (.slice (a0.map eS))), (1, .d (.slice (b1.map eS)))], tabH [], 0, []⟩) (View.init (by rfl)) (Nat.zero_le _) ?_
  replace h := theC_get h
  obtain ⟨_, h⟩ := h
  obtain ⟨k0, rfl, h9⟩ := run_succ h; replace h := h9; clear h9
  refine QW.seq ?_
  refine QW.region (Nat.zero_le _) (PW.regT (by kernel_rfl) ?_)
  refine XK.st (some 4) rfl rfl (sf_assign (v := .d (.val (.bool false))) rfl rfl ?_)
  refine XK.nil (nrm ?_)
  refine QW.seq ?_
  refine QW.seq ?_
  refine QW.region (Nat.zero_le _) (PW.regT (by kernel_rfl) ?_)
  refine XK.st (some 6) rfl rfl (sf_move (v := .d (.slice (a0.map eS))) rfl rfl ?_)
  refine XK.st (some 7) rfl rfl (sf_lenL (en := eS) (l := a0) rfl TT.under_34 rfl ?_)
  refine XK.st (some 8) rfl rfl (sf_move (v := .d (.slice (b1.map eS))) rfl rfl ?_)
  refine XK.st (some 9) rfl rfl (sf_lenL (en := eS) (l := b1) rfl TT.under_34 rfl ?_)
  refine XK.st (some 10) rfl rfl (sf_ne (a := (a0.length : Int)) (b := (b1.length : Int)) rfl rfl rfl ?_)
  refine XK.nil (nrm ?_)
  refine QW.cond (t := (!decide ((a0.length : Int) = (b1.length : Int)))) rfl (Nat.zero_le _) (fun hb1 => ?_) (fun hb1 => ?_)
  · replace h := bGT h hb1
    refine QW.seq ?_
    refine QW.region (Nat.zero_le _) (PW.regT (by kernel_rfl) ?_)
    refine XK.st (some 4) rfl rfl (sf_assign (v := .d (.val (.bool false))) rfl rfl ?_)
    refine XK.nil (nrm ?_)
    refine QW.ret (Nat.zero_le _) (thR ?_)
    obtain rfl := sG h
    exact Ends.one (.inr rfl) rfl (ResIs.tmp rfl) rfl rfl
  · replace h := bGF h hb1
    refine QW.skip (Nat.zero_le _) (nrm ?_)
    refine QW.seq ?_
    refine QW.seq ?_
    refine QW.region (Nat.zero_le _) (PW.regT (by kernel_rfl) ?_)
    refine XK.st (some 5) rfl rfl (sf_assign (v := .d (.val (.int .i64 (0)))) rfl rfl ?_)
    refine XK.nil (nrm ?_)
    refine QW.block ?_
    refine QW.loop (fun k σ => ∃ v5 : Int, k ≤ k0 ∧ run (step_ref01_Same a0 b1) k (.L1 v5) = some r ∧ σ = ⟨tab [(0, .d (.slice (a0.map eS))), (1, .d (.slice (b1.map eS))), (5, .d (.val (.int .i64 v5)))], tabH [], 0, []⟩) k0 (Nat.zero_le _) ⟨⟨tab [(0, .d (.slice (a0.map eS))), (1, .d (.slice (b1.map eS))), (5, .d (.val (.int .i64 (0))))], tabH [], 0, []⟩, View.mk 0 [] _ _ _ rfl rfl (by decide) (And.intro (Imp.of_eq rfl) (And.intro (Imp.of_eq rfl) (And.intro (Imp.of_eq rfl) trivial))) trivial rfl (Nat.zero_le _) rfl, 0, Nat.le_refl _, jG h, rfl⟩ ?_
    rintro k2s _ ⟨v5, k2h, h, rfl⟩
    obtain ⟨k2, rfl, h9⟩ := run_succ h; replace h := h9; clear h9
    refine QW.seq ?_
    refine QW.seq ?_
    refine QW.region (Nat.zero_le _) (PW.regT (by kernel_rfl) ?_)
    refine XK.st (some 11) rfl rfl (sf_move (v := .d (.val (.int .i64 v5))) rfl rfl ?_)
    refine XK.st (some 12) rfl rfl (sf_move (v := .d (.slice (a0.map eS))) rfl rfl ?_)
    refine XK.st (some 13) rfl rfl (sf_lenL (en := eS) (l := a0) rfl TT.under_34 rfl ?_)
    refine XK.st (some 14) rfl rfl (sf_lss (a := v5) (b := (a0.length : Int)) rfl rfl rfl ?_)
    refine XK.nil (nrm ?_)
    refine QW.cond (t := (decide (v5 < (a0.length : Int)))) rfl (Nat.zero_le _) (fun hb3 => ?_) (fun hb3 => ?_)
    · replace h := bGT h hb3
      refine QW.skip (Nat.zero_le _) (nrm ?_)
      refine QW.seq ?_
      refine QW.block ?_
      refine QW.seq ?_
      refine QW.region (Nat.zero_le _) (PW.regQ (id := 6) mixedX (M := _) rfl (by kernel_rfl) ?_)
      refine RQ.st (some 17) rfl rfl (sf_move (v := .d (.slice (a0.map eS))) rfl rfl ⟨⟨rfl, rfl⟩, ?_⟩)
      refine RQ.st (some 18) rfl rfl (sf_move (v := .d (.val (.int .i64 v5))) rfl rfl ⟨⟨rfl, rfl⟩, ?_⟩)
      obtain ⟨c4, h⟩ := gG h
      refine RQ.st (some 19) rfl rfl (sf_idxA (l := a0) (i := v5) rfl TT.slcA_34 lay_S rfl rfl c4 ⟨⟨rfl, rfl⟩, ?_⟩)
      refine RQ.st (some 20) rfl rfl (sf_ldC (d := .val (sV (idx a0 v5))) rfl TT.tyA_9 rfl (LdC.one) ⟨⟨rfl, rfl⟩, ?_⟩)
      refine RQ.st (some 21) rfl rfl (sf_move (v := .d (.slice (b1.map eS))) rfl rfl ⟨⟨rfl, rfl⟩, ?_⟩)
      refine RQ.st (some 22) rfl rfl (sf_move (v := .d (.val (.int .i64 v5))) rfl rfl ⟨⟨rfl, rfl⟩, ?_⟩)
      obtain ⟨c5, h⟩ := gG h
      refine RQ.st (some 23) rfl rfl (sf_idxA (l := b1) (i := v5) rfl TT.slcA_34 lay_S rfl rfl c5 ⟨⟨rfl, rfl⟩, ?_⟩)
      refine RQ.st (some 24) rfl rfl (sf_ldC (d := .val (sV (idx b1 v5))) rfl TT.tyA_9 rfl (LdC.one) ⟨⟨rfl, rfl⟩, ?_⟩)
      refine RQ.st (some 25) rfl rfl (sf_sne (a := (idx a0 v5)) (b := (idx b1 v5)) rfl rfl rfl ⟨⟨rfl, rfl⟩, ?_⟩)
      refine RQ.nil (nrm ?_)
      refine QW.cond (t := (!((idx a0 v5) == (idx b1 v5)))) rfl (Nat.zero_le _) (fun hb6 => ?_) (fun hb6 => ?_)
      · replace h := bGT h hb6
        refine QW.seq ?_
        refine QW.region (Nat.zero_le _) (PW.regT (by kernel_rfl) ?_)
        refine XK.st (some 4) rfl rfl (sf_assign (v := .d (.val (.bool false))) rfl rfl ?_)
        refine XK.nil (nrm ?_)
        refine QW.ret (Nat.zero_le _) (blR (thR (thR (blR (thR ?_)))))
        obtain rfl := sG h
        exact Ends.one (.inr rfl) rfl (ResIs.tmp rfl) rfl rfl
      · replace h := bGF h hb6
        refine QW.skip (Nat.zero_le _) (blN (nrm ?_))
        refine QW.region (Nat.zero_le _) (PW.regT (by kernel_rfl) ?_)
        refine XK.st (some 15) rfl rfl (sf_move (v := .d (.val (.int .i64 v5))) rfl rfl ?_)
        obtain ⟨c7, h⟩ := gG h
        refine XK.st (some 16) rfl rfl (sf_add (a := v5) (b := (1 : Int)) rfl rfl rfl c7 ?_)
        refine XK.st (some 5) rfl rfl (sf_assign (v := .d (.val (.int .i64 (v5 + (1 : Int))))) rfl rfl ?_)
        refine XK.nil (nrm ?_)
        exact ⟨k2, by omega, ⟨tab [(0, .d (.slice (a0.map eS))), (1, .d (.slice (b1.map eS))), (5, .d (.val (.int .i64 (v5 + (1 : Int)))))], tabH [], 0, []⟩, View.mk 0 [] _ _ _ rfl rfl (by decide) (And.intro (Imp.of_eq rfl) (And.intro (Imp.of_eq rfl) (And.intro (Imp.of_eq rfl) trivial))) trivial rfl (Nat.zero_le _) rfl, (v5 + (1 : Int)), by omega, jG h, rfl⟩
    · replace h := bGF h hb3
      refine QW.exit (Nat.zero_le _) (thX (thX (exE (nrm ?_))))
      refine QW.seq ?_
      refine QW.region (Nat.zero_le _) (PW.regT (by kernel_rfl) ?_)
      refine XK.st (some 4) rfl rfl (sf_assign (v := .d (.val (.bool true))) rfl rfl ?_)
      refine XK.nil (nrm ?_)
      refine QW.ret (Nat.zero_le _) ?_
      obtain rfl := sG h
      exact Ends.one (.inr rfl) rfl (ResIs.tmp rfl) rfl rfl

inductive C_ref15_Same where
  | S
  | L1 (v5 : Int)

noncomputable def step_ref15_Same (a0 : Witness) (b1 : Witness) : C_ref15_Same → Option (C_ref15_Same ⊕ Bool)
  | .S =>
    (bif ((!((a0.fKey).1 == (b1.fKey).1)) || (!decide (((a0.fLinks).length : Int) = ((b1.fLinks).length : Int)))) then
    some (.inr false)
    else
    some (.inl (.L1 (0))))
  | .L1 v5 =>
    (bif (decide (v5 < ((a0.fLinks).length : Int))) then
    gO (0 ≤ v5 ∧ v5 < ((a0.fLinks).length : Int)) (
    gO (0 ≤ v5 ∧ v5 < ((b1.fLinks).length : Int)) (
    gO ((!decide (((idx (a0.fLinks) v5).fEpoch) = ((idx (b1.fLinks) v5).fEpoch))) = false → 0 ≤ v5 ∧ v5 < ((a0.fLinks).length : Int)) (
    gO ((!decide (((idx (a0.fLinks) v5).fEpoch) = ((idx (b1.fLinks) v5).fEpoch))) = false → 0 ≤ v5 ∧ v5 < ((b1.fLinks).length : Int)) (
    ((bif ((!decide (((idx (a0.fLinks) v5).fEpoch) = ((idx (b1.fLinks) v5).fEpoch))) == false) then g_ref01_Same ((idx (a0.fLinks) v5).fProof) ((idx (b1.fLinks) v5).fProof) else some default).bind fun (x8 : Bool) =>
    (bif ((!decide (((idx (a0.fLinks) v5).fEpoch) = ((idx (b1.fLinks) v5).fEpoch))) || (!x8)) then
    some (.inr false)
    else
    gO (inI (v5 + (1 : Int))) (
    some (.inl (.L1 (v5 + (1 : Int)))))))))))
    else
    some (.inr true))

noncomputable def g_ref15_Same (a0 : Witness) (b1 : Witness) : Option Bool := theC (step_ref15_Same a0 b1) .S

set_option maxRecDepth 20000 in
set_option maxHeartbeats 4000000 in
theorem sim_ref15_Same (a0 : Witness) (b1 : Witness) (r : Bool) (h : g_ref15_Same a0 b1 = some r) : Fun Try.prog 77 [.agg (cWitness a0), .agg (cWitness b1)] (.val (.bool r)) := by
  refine Fun.of_bodyQ Try.func77 rfl (by simp [Try.ntmps77]) ?_
  rw [Try.ntmps77, TT.res_77]
  refine QW.view (s' := ⟨tab [(0, .d (.agg (cWitness a0))), (1, .d (.agg (cWitness b1)))], tabH [], 0, []⟩) (View.init (by rfl)) (Nat.zero_le _) ?_
  replace h := theC_get h
  obtain ⟨_, h⟩ := h
  obtain ⟨k0, rfl, h9⟩ := run_succ h; replace h := h9; clear h9
  refine QW.seq ?_
  refine QW.region (Nat.zero_le _) (PW.regT (by kernel_rfl) ?_)
  refine XK.fz (some 2) rfl rfl (sf_boxF (ds := cWitness a0) rfl rfl rfl rfl toDs_map ?_)
  refine XK.fz (some 3) rfl rfl (sf_boxF (ds := cWitness b1) rfl rfl rfl rfl toDs_map ?_)
  refine XK.st (some 4) rfl rfl (sf_assign (v := .d (.val (.bool false))) rfl rfl ?_)
  refine XK.nil (nrm ?_)
  refine QW.seq ?_
  refine QW.seq ?_
  refine QW.region (Nat.zero_le _) (PW.regT (by kernel_rfl) ?_)
  refine XK.st (some 6) rfl rfl (sf_fldC rfl TT.fldA_91_0 (by decide) rfl ?_)
  refine XK.st (some 7) rfl rfl (sf_ldC (d := .agg ((a0.fKey).1.map byteD)) rfl TT.tyA_29 rfl (ldc_Witness_0 _) ?_)
  refine XK.st (some 8) rfl rfl (sf_fldC rfl TT.fldA_91_0 (by decide) rfl ?_)
  refine XK.st (some 9) rfl rfl (sf_ldC (d := .agg ((b1.fKey).1.map byteD)) rfl TT.tyA_29 rfl (ldc_Witness_0 _) ?_)
  refine XK.st (some 10) rfl rfl (sf_arrne (p := a0.fKey) (q := b1.fKey) rfl TT.arrB_29_32 rfl rfl ?_)
  refine XK.st (some 11) rfl rfl (sf_move (v := .d (.val (.bool (!((a0.fKey).1 == (b1.fKey).1))))) rfl rfl ?_)
  refine XK.gd (v := .d (.cptr ((cWitness a0).drop 32))) (T := []) (some 12) rfl rfl (by repeat (first | exact trivial | refine And.intro (fun hg => by first | rfl | exact hg | exact (Bool.and_eq_true_iff.mp hg).1 | exact (Bool.and_eq_true_iff.mp (Bool.and_eq_true_iff.mp hg).1).1) ?_)) (fun hg => sf_fldC rfl TT.fldA_91_1 (by decide) rfl ⟨⟨rfl, rfl, rfl⟩, rfl, Imp.refl⟩) (fun _ _ hi => nomatch hi) ?_
  refine XK.gd (v := .d (.slice ((a0.fLinks).map eLink))) (T := []) (some 13) rfl rfl (by repeat (first | exact trivial | refine And.intro (fun hg => by first | rfl | exact hg | exact (Bool.and_eq_true_iff.mp hg).1 | exact (Bool.and_eq_true_iff.mp (Bool.and_eq_true_iff.mp hg).1).1) ?_)) (fun hg => sf_ldC (d := .slice ((a0.fLinks).map eLink)) rfl TT.tyA_89 rfl (ldc_Witness_1 _) ⟨⟨rfl, rfl, rfl⟩, rfl, Imp.refl⟩) (fun _ _ hi => nomatch hi) ?_
  refine XK.gd (v := .d (.val (.int .i64 ((a0.fLinks).length : Int)))) (T := []) (some 14) rfl rfl (by repeat (first | exact trivial | refine And.intro (fun hg => by first | rfl | exact hg | exact (Bool.and_eq_true_iff.mp hg).1 | exact (Bool.and_eq_true_iff.mp (Bool.and_eq_true_iff.mp hg).1).1) ?_)) (fun hg => sf_lenL (en := eLink) (l := a0.fLinks) rfl TT.under_89 rfl ⟨⟨rfl, rfl, rfl⟩, rfl, Imp.refl⟩) (fun _ _ hi => nomatch hi) ?_
  refine XK.gd (v := .d (.cptr ((cWitness b1).drop 32))) (T := []) (some 15) rfl rfl (by repeat (first | exact trivial | refine And.intro (fun hg => by first | rfl | exact hg | exact (Bool.and_eq_true_iff.mp hg).1 | exact (Bool.and_eq_true_iff.mp (Bool.and_eq_true_iff.mp hg).1).1) ?_)) (fun hg => sf_fldC rfl TT.fldA_91_1 (by decide) rfl ⟨⟨rfl, rfl, rfl⟩, rfl, Imp.refl⟩) (fun _ _ hi => nomatch hi) ?_
  refine XK.gd (v := .d (.slice ((b1.fLinks).map eLink))) (T := []) (some 16) rfl rfl (by repeat (first | exact trivial | refine And.intro (fun hg => by first | rfl | exact hg | exact (Bool.and_eq_true_iff.mp hg).1 | exact (Bool.and_eq_true_iff.mp (Bool.and_eq_true_iff.mp hg).1).1) ?_)) (fun hg => sf_ldC (d := .slice ((b1.fLinks).map eLink)) rfl TT.tyA_89 rfl (ldc_Witness_1 _) ⟨⟨rfl, rfl, rfl⟩, rfl, Imp.refl⟩) (fun _ _ hi => nomatch hi) ?_
  refine XK.gd (v := .d (.val (.int .i64 ((b1.fLinks).length : Int)))) (T := []) (some 17) rfl rfl (by repeat (first | exact trivial | refine And.intro (fun hg => by first | rfl | exact hg | exact (Bool.and_eq_true_iff.mp hg).1 | exact (Bool.and_eq_true_iff.mp (Bool.and_eq_true_iff.mp hg).1).1) ?_)) (fun hg => sf_lenL (en := eLink) (l := b1.fLinks) rfl TT.under_89 rfl ⟨⟨rfl, rfl, rfl⟩, rfl, Imp.refl⟩) (fun _ _ hi => nomatch hi) ?_
  refine XK.gd (v := .d (.val (.bool (!decide (((a0.fLinks).length : Int) = ((b1.fLinks).length : Int)))))) (T := []) (some 18) rfl rfl (by repeat (first | exact trivial | refine And.intro (fun hg => by first | rfl | exact hg | exact (Bool.and_eq_true_iff.mp hg).1 | exact (Bool.and_eq_true_iff.mp (Bool.and_eq_true_iff.mp hg).1).1) ?_)) (fun hg => sf_ne (a := ((a0.fLinks).length : Int)) (b := ((b1.fLinks).length : Int)) rfl rfl rfl ⟨⟨rfl, rfl, rfl⟩, rfl, Imp.refl⟩) (fun _ _ hi => nomatch hi) ?_
  refine XK.st (some 19) rfl rfl (sf_pickO rfl rfl rfl rfl (fun _ => rfl) (fun hb => by rw [hb]; rfl) ?_)
  refine XK.nil (nrm ?_)
  refine QW.cond (t := ((!((a0.fKey).1 == (b1.fKey).1)) || (!decide (((a0.fLinks).length : Int) = ((b1.fLinks).length : Int))))) rfl (Nat.zero_le _) (fun hb1 => ?_) (fun hb1 => ?_)
  · replace h := bGT h hb1
    refine QW.seq ?_
    refine QW.region (Nat.zero_le _) (PW.regT (by kernel_rfl) ?_)
    refine XK.st (some 4) rfl rfl (sf_assign (v := .d (.val (.bool false))) rfl rfl ?_)
    refine XK.nil (nrm ?_)
    refine QW.ret (Nat.zero_le _) (thR ?_)
    obtain rfl := sG h
    exact Ends.one (.inr rfl) rfl (ResIs.tmp rfl) rfl rfl
  · replace h := bGF h hb1
    refine QW.skip (Nat.zero_le _) (nrm ?_)
    refine QW.seq ?_
    refine QW.seq ?_
    refine QW.region (Nat.zero_le _) (PW.regT (by kernel_rfl) ?_)
    refine XK.st (some 5) rfl rfl (sf_assign (v := .d (.val (.int .i64 (0)))) rfl rfl ?_)
    refine XK.nil (nrm ?_)
    refine QW.block ?_
    refine QW.loop (fun k σ => ∃ v5 : Int, k ≤ k0 ∧ run (step_ref15_Same a0 b1) k (.L1 v5) = some r ∧ σ = ⟨tab [(2, .d (.cptr (cWitness a0))), (3, .d (.cptr (cWitness b1))), (5, .d (.val (.int .i64 v5)))], tabH [], 0, []⟩) k0 (Nat.zero_le _) ⟨⟨tab [(2, .d (.cptr (cWitness a0))), (3, .d (.cptr (cWitness b1))), (5, .d (.val (.int .i64 (0))))], tabH [], 0, []⟩, View.mk 0 [] _ _ _ rfl rfl (by decide) (And.intro (Imp.of_eq rfl) (And.intro (Imp.of_eq rfl) (And.intro (Imp.of_eq rfl) trivial))) trivial rfl (Nat.zero_le _) rfl, 0, Nat.le_refl _, jG h, rfl⟩ ?_
    rintro k2s _ ⟨v5, k2h, h, rfl⟩
    obtain ⟨k2, rfl, h9⟩ := run_succ h; replace h := h9; clear h9
    refine QW.seq ?_
    refine QW.seq ?_
    refine QW.region (Nat.zero_le _) (PW.regT (by kernel_rfl) ?_)
    refine XK.st (some 20) rfl rfl (sf_move (v := .d (.val (.int .i64 v5))) rfl rfl ?_)
    refine XK.st (some 21) rfl rfl (sf_fldC rfl TT.fldA_91_1 (by decide) rfl ?_)
    refine XK.st (some 22) rfl rfl (sf_ldC (d := .slice ((a0.fLinks).map eLink)) rfl TT.tyA_89 rfl (ldc_Witness_1 _) ?_)
    refine XK.st (some 23) rfl rfl (sf_lenL (en := eLink) (l := a0.fLinks) rfl TT.under_89 rfl ?_)
    refine XK.st (some 24) rfl rfl (sf_lss (a := v5) (b := ((a0.fLinks).length : Int)) rfl rfl rfl ?_)
    refine XK.nil (nrm ?_)
    refine QW.cond (t := (decide (v5 < ((a0.fLinks).length : Int)))) rfl (Nat.zero_le _) (fun hb3 => ?_) (fun hb3 => ?_)
    · replace h := bGT h hb3
      refine QW.skip (Nat.zero_le _) (nrm ?_)
      refine QW.seq ?_
      refine QW.block ?_
      refine QW.seq ?_
      refine QW.region (Nat.zero_le _) (PW.regQ (id := 6) mixedX (M := _) rfl (by kernel_rfl) ?_)
      refine RQ.st (some 27) rfl rfl (sf_fldC rfl TT.fldA_91_1 (by decide) rfl ⟨⟨rfl, rfl⟩, ?_⟩)
      refine RQ.st (some 28) rfl rfl (sf_ldC (d := .slice ((a0.fLinks).map eLink)) rfl TT.tyA_89 rfl (ldc_Witness_1 _) ⟨⟨rfl, rfl⟩, ?_⟩)
      refine RQ.st (some 29) rfl rfl (sf_move (v := .d (.val (.int .i64 v5))) rfl rfl ⟨⟨rfl, rfl⟩, ?_⟩)
      obtain ⟨c4, h⟩ := gG h
      refine RQ.st (some 30) rfl rfl (sf_idxA (l := a0.fLinks) (i := v5) rfl TT.slcA_89 lay_Link rfl rfl c4 ⟨⟨rfl, rfl⟩, ?_⟩)
      refine RQ.st (some 31) rfl rfl (sf_fldC rfl TT.fldA_96_0 (by decide) rfl ⟨⟨rfl, rfl⟩, ?_⟩)
      refine RQ.st (some 32) rfl rfl (sf_ldC (d := .val (.int .i64 ((idx (a0.fLinks) v5).fEpoch))) rfl TT.tyA_3 rfl (LdC.one) ⟨⟨rfl, rfl⟩, ?_⟩)
      refine RQ.st (some 33) rfl rfl (sf_fldC rfl TT.fldA_91_1 (by decide) rfl ⟨⟨rfl, rfl⟩, ?_⟩)
      refine RQ.st (some 34) rfl rfl (sf_ldC (d := .slice ((b1.fLinks).map eLink)) rfl TT.tyA_89 rfl (ldc_Witness_1 _) ⟨⟨rfl, rfl⟩, ?_⟩)
      refine RQ.st (some 35) rfl rfl (sf_move (v := .d (.val (.int .i64 v5))) rfl rfl ⟨⟨rfl, rfl⟩, ?_⟩)
      obtain ⟨c5, h⟩ := gG h
      refine RQ.st (some 36) rfl rfl (sf_idxA (l := b1.fLinks) (i := v5) rfl TT.slcA_89 lay_Link rfl rfl c5 ⟨⟨rfl, rfl⟩, ?_⟩)
      refine RQ.st (some 37) rfl rfl (sf_fldC rfl TT.fldA_96_0 (by decide) rfl ⟨⟨rfl, rfl⟩, ?_⟩)
      refine RQ.st (some 38) rfl rfl (sf_ldC (d := .val (.int .i64 ((idx (b1.fLinks) v5).fEpoch))) rfl TT.tyA_3 rfl (LdC.one) ⟨⟨rfl, rfl⟩, ?_⟩)
      refine RQ.st (some 39) rfl rfl (sf_ne (a := ((idx (a0.fLinks) v5).fEpoch)) (b := ((idx (b1.fLinks) v5).fEpoch)) rfl rfl rfl ⟨⟨rfl, rfl⟩, ?_⟩)
      refine RQ.st (some 40) rfl rfl (sf_move (v := .d (.val (.bool (!decide (((idx (a0.fLinks) v5).fEpoch) = ((idx (b1.fLinks) v5).fEpoch)))))) rfl rfl ⟨⟨rfl, rfl⟩, ?_⟩)
      refine RQ.gd (v := .d (.cptr ((cWitness a0).drop 32))) (T := []) (some 41) rfl rfl (by repeat (first | exact trivial | refine And.intro (fun hg => by first | rfl | exact hg | exact (Bool.and_eq_true_iff.mp hg).1 | exact (Bool.and_eq_true_iff.mp (Bool.and_eq_true_iff.mp hg).1).1) ?_)) (fun hg => sf_fldC rfl TT.fldA_91_1 (by decide) rfl ⟨⟨rfl, rfl, rfl⟩, rfl, Imp.refl⟩) (fun _ _ hi => nomatch hi) ?_
      refine RQ.gd (v := .d (.slice ((a0.fLinks).map eLink))) (T := []) (some 42) rfl rfl (by repeat (first | exact trivial | refine And.intro (fun hg => by first | rfl | exact hg | exact (Bool.and_eq_true_iff.mp hg).1 | exact (Bool.and_eq_true_iff.mp (Bool.and_eq_true_iff.mp hg).1).1) ?_)) (fun hg => sf_ldC (d := .slice ((a0.fLinks).map eLink)) rfl TT.tyA_89 rfl (ldc_Witness_1 _) ⟨⟨rfl, rfl, rfl⟩, rfl, Imp.refl⟩) (fun _ _ hi => nomatch hi) ?_
      refine RQ.gd (v := .d (.val (.int .i64 v5))) (T := []) (some 43) rfl rfl (by repeat (first | exact trivial | refine And.intro (fun hg => by first | rfl | exact hg | exact (Bool.and_eq_true_iff.mp hg).1 | exact (Bool.and_eq_true_iff.mp (Bool.and_eq_true_iff.mp hg).1).1) ?_)) (fun hg => sf_move (v := .d (.val (.int .i64 v5))) rfl rfl ⟨⟨rfl, rfl, rfl⟩, rfl, Imp.refl⟩) (fun _ _ hi => nomatch hi) ?_
      obtain ⟨c6, h⟩ := gG h
      refine RQ.gd (v := .d (.cptr (cLink (idx (a0.fLinks) v5)))) (T := []) (some 44) rfl rfl (by repeat (first | exact trivial | refine And.intro (fun hg => by first | rfl | exact hg | exact (Bool.and_eq_true_iff.mp hg).1 | exact (Bool.and_eq_true_iff.mp (Bool.and_eq_true_iff.mp hg).1).1) ?_)) (fun hg => sf_idxA (l := a0.fLinks) (i := v5) rfl TT.slcA_89 lay_Link rfl rfl (c6 (eqB hg)) ⟨⟨rfl, rfl, rfl⟩, rfl, Imp.refl⟩) (fun _ _ hi => nomatch hi) ?_
      refine RQ.gd (v := .d (.cptr ((cLink (idx (a0.fLinks) v5)).drop 1))) (T := []) (some 45) rfl rfl (by repeat (first | exact trivial | refine And.intro (fun hg => by first | rfl | exact hg | exact (Bool.and_eq_true_iff.mp hg).1 | exact (Bool.and_eq_true_iff.mp (Bool.and_eq_true_iff.mp hg).1).1) ?_)) (fun hg => sf_fldC rfl TT.fldA_96_1 (by decide) rfl ⟨⟨rfl, rfl, rfl⟩, rfl, Imp.refl⟩) (fun _ _ hi => nomatch hi) ?_
      refine RQ.gd (v := .d (.slice (((idx (a0.fLinks) v5).fProof).map eS))) (T := []) (some 46) rfl rfl (by repeat (first | exact trivial | refine And.intro (fun hg => by first | rfl | exact hg | exact (Bool.and_eq_true_iff.mp hg).1 | exact (Bool.and_eq_true_iff.mp (Bool.and_eq_true_iff.mp hg).1).1) ?_)) (fun hg => sf_ldC (d := .slice (((idx (a0.fLinks) v5).fProof).map eS)) rfl TT.tyA_94 rfl (LdC.one) ⟨⟨rfl, rfl, rfl⟩, rfl, Imp.refl⟩) (fun _ _ hi => nomatch hi) ?_
      refine RQ.gd (v := .d (.cptr ((cWitness b1).drop 32))) (T := []) (some 47) rfl rfl (by repeat (first | exact trivial | refine And.intro (fun hg => by first | rfl | exact hg | exact (Bool.and_eq_true_iff.mp hg).1 | exact (Bool.and_eq_true_iff.mp (Bool.and_eq_true_iff.mp hg).1).1) ?_)) (fun hg => sf_fldC rfl TT.fldA_91_1 (by decide) rfl ⟨⟨rfl, rfl, rfl⟩, rfl, Imp.refl⟩) (fun _ _ hi => nomatch hi) ?_
      refine RQ.gd (v := .d (.slice ((b1.fLinks).map eLink))) (T := []) (some 48) rfl rfl (by repeat (first | exact trivial | refine And.intro (fun hg => by first | rfl | exact hg | exact (Bool.and_eq_true_iff.mp hg).1 | exact (Bool.and_eq_true_iff.mp (Bool.and_eq_true_iff.mp hg).1).1) ?_)) (fun hg => sf_ldC (d := .slice ((b1.fLinks).map eLink)) rfl TT.tyA_89 rfl (ldc_Witness_1 _) ⟨⟨rfl, rfl, rfl⟩, rfl, Imp.refl⟩) (fun _ _ hi => nomatch hi) ?_
      refine RQ.gd (v := .d (.val (.int .i64 v5))) (T := []) (some 49) rfl rfl (by repeat (first | exact trivial | refine And.intro (fun hg => by first | rfl | exact hg | exact (Bool.and_eq_true_iff.mp hg).1 | exact (Bool.and_eq_true_iff.mp (Bool.and_eq_true_iff.mp hg).1).1) ?_)) (fun hg => sf_move (v := .d (.val (.int .i64 v5))) rfl rfl ⟨⟨rfl, rfl, rfl⟩, rfl, Imp.refl⟩) (fun _ _ hi => nomatch hi) ?_
      obtain ⟨c7, h⟩ := gG h
      refine RQ.gd (v := .d (.cptr (cLink (idx (b1.fLinks) v5)))) (T := []) (some 50) rfl rfl (by repeat (first | exact trivial | refine And.intro (fun hg => by first | rfl | exact hg | exact (Bool.and_eq_true_iff.mp hg).1 | exact (Bool.and_eq_true_iff.mp (Bool.and_eq_true_iff.mp hg).1).1) ?_)) (fun hg => sf_idxA (l := b1.fLinks) (i := v5) rfl TT.slcA_89 lay_Link rfl rfl (c7 (eqB hg)) ⟨⟨rfl, rfl, rfl⟩, rfl, Imp.refl⟩) (fun _ _ hi => nomatch hi) ?_
      refine RQ.gd (v := .d (.cptr ((cLink (idx (b1.fLinks) v5)).drop 1))) (T := []) (some 51) rfl rfl (by repeat (first | exact trivial | refine And.intro (fun hg => by first | rfl | exact hg | exact (Bool.and_eq_true_iff.mp hg).1 | exact (Bool.and_eq_true_iff.mp (Bool.and_eq_true_iff.mp hg).1).1) ?_)) (fun hg => sf_fldC rfl TT.fldA_96_1 (by decide) rfl ⟨⟨rfl, rfl, rfl⟩, rfl, Imp.refl⟩) (fun _ _ hi => nomatch hi) ?_
      refine RQ.gd (v := .d (.slice (((idx (b1.fLinks) v5).fProof).map eS))) (T := []) (some 52) rfl rfl (by repeat (first | exact trivial | refine And.intro (fun hg => by first | rfl | exact hg | exact (Bool.and_eq_true_iff.mp hg).1 | exact (Bool.and_eq_true_iff.mp (Bool.and_eq_true_iff.mp hg).1).1) ?_)) (fun hg => sf_ldC (d := .slice (((idx (b1.fLinks) v5).fProof).map eS)) rfl TT.tyA_94 rfl (LdC.one) ⟨⟨rfl, rfl, rfl⟩, rfl, Imp.refl⟩) (fun _ _ hi => nomatch hi) ?_
      obtain ⟨x8, hx9, h⟩ := bG h
      refine RQ.gd (v := .d (.val (.bool x8))) (T := []) (some 53) rfl rfl (by repeat (first | exact trivial | refine And.intro (fun hg => by first | rfl | exact hg | exact (Bool.and_eq_true_iff.mp hg).1 | exact (Bool.and_eq_true_iff.mp (Bool.and_eq_true_iff.mp hg).1).1) ?_)) (fun hg => sf_call rfl rfl TT.enters_113 rfl (sim_ref01_Same ((idx (a0.fLinks) v5).fProof) ((idx (b1.fLinks) v5).fProof) _ (bT hx9 hg)) ⟨⟨rfl, rfl, rfl⟩, rfl, Imp.refl⟩) (fun _ _ hi => nomatch hi) ?_
      refine RQ.gd (v := .d (.val (.bool (!x8)))) (T := []) (some 54) rfl rfl (by repeat (first | exact trivial | refine And.intro (fun hg => by first | rfl | exact hg | exact (Bool.and_eq_true_iff.mp hg).1 | exact (Bool.and_eq_true_iff.mp (Bool.and_eq_true_iff.mp hg).1).1) ?_)) (fun hg => sf_not rfl rfl ⟨⟨rfl, rfl, rfl⟩, rfl, Imp.refl⟩) (fun _ _ hi => nomatch hi) ?_
      refine RQ.st (some 55) rfl rfl (sf_pickO rfl rfl rfl rfl (fun _ => rfl) (fun hb => by rw [hb]; rfl) ⟨⟨rfl, rfl⟩, ?_⟩)
      refine RQ.nil (nrm ?_)
      refine QW.cond (t := ((!decide (((idx (a0.fLinks) v5).fEpoch) = ((idx (b1.fLinks) v5).fEpoch))) || (!x8))) rfl (Nat.zero_le _) (fun hb10 => ?_) (fun hb10 => ?_)
      · replace h := bGT h hb10
        refine QW.seq ?_
        refine QW.region (Nat.zero_le _) (PW.regT (by kernel_rfl) ?_)
        refine XK.st (some 4) rfl rfl (sf_assign (v := .d (.val (.bool false))) rfl rfl ?_)
        refine XK.nil (nrm ?_)
        refine QW.ret (Nat.zero_le _) (blR (thR (thR (blR (thR ?_)))))
        obtain rfl := sG h
        exact Ends.one (.inr rfl) rfl (ResIs.tmp rfl) rfl rfl
      · replace h := bGF h hb10
        refine QW.skip (Nat.zero_le _) (blN (nrm ?_))
        refine QW.region (Nat.zero_le _) (PW.regT (by kernel_rfl) ?_)
        refine XK.st (some 25) rfl rfl (sf_move (v := .d (.val (.int .i64 v5))) rfl rfl ?_)
        obtain ⟨c11, h⟩ := gG h
        refine XK.st (some 26) rfl rfl (sf_add (a := v5) (b := (1 : Int)) rfl rfl rfl c11 ?_)
        refine XK.st (some 5) rfl rfl (sf_assign (v := .d (.val (.int .i64 (v5 + (1 : Int))))) rfl rfl ?_)
        refine XK.nil (nrm ?_)
        exact ⟨k2, by omega, ⟨tab [(2, .d (.cptr (cWitness a0))), (3, .d (.cptr (cWitness b1))), (5, .d (.val (.int .i64 (v5 + (1 : Int)))))], tabH [], 0, []⟩, View.mk 0 [] _ _ _ rfl rfl (by decide) (And.intro (Imp.of_eq rfl) (And.intro (Imp.of_eq rfl) (And.intro (Imp.of_eq rfl) trivial))) trivial rfl (Nat.zero_le _) rfl, (v5 + (1 : Int)), by omega, jG h, rfl⟩
    · replace h := bGF h hb3
      refine QW.exit (Nat.zero_le _) (thX (thX (exE (nrm ?_))))
      refine QW.seq ?_
      refine QW.region (Nat.zero_le _) (PW.regT (by kernel_rfl) ?_)
      refine XK.st (some 4) rfl rfl (sf_assign (v := .d (.val (.bool true))) rfl rfl ?_)
      refine XK.nil (nrm ?_)
      refine QW.ret (Nat.zero_le _) ?_
      obtain rfl := sG h
      exact Ends.one (.inr rfl) rfl (ResIs.tmp rfl) rfl rfl

inductive C_ref13_Bytes where
  | S
  | L1 (v3 : Int) (v4 : Int)

noncomputable def step_ref13_Bytes (l0 : (List (List UInt8))) : C_ref13_Bytes → Option (C_ref13_Bytes ⊕ Int)
  | .S =>
    some (.inl (.L1 (0) (0)))
  | .L1 v3 v4 =>
    (bif (decide (v4 < (l0.length : Int))) then
    gO (0 ≤ v4 ∧ v4 < (l0.length : Int)) (
    gO (inI (v3 + ((idx l0 v4).length : Int))) (
    gO (inI (v4 + (1 : Int))) (
    some (.inl (.L1 (v3 + ((idx l0 v4).length : Int)) (v4 + (1 : Int)))))))
    else
    some (.inr v3))

noncomputable def g_ref13_Bytes (l0 : (List (List UInt8))) : Option Int := theC (step_ref13_Bytes l0) .S

set_option maxRecDepth 20000 in
set_option maxHeartbeats 4000000 in
theorem sim_ref13_Bytes (l0 : (List (List UInt8))) (r : Int) (h : g_ref13_Bytes l0 = some r) : Fun Try.prog 30 [.slice (l0.map eS)] (.val (.int .i64 r)) := by
  refine Fun.of_bodyQ Try.func30 rfl (by simp [Try.ntmps30]) ?_
  rw [Try.ntmps30, TT.res_30]
  refine QW.view (s' := ⟨tab [(0, .d (.slice (l0.map eS)))], tabH [], 0, []⟩) (View.init (by rfl)) (Nat.zero_le _) ?_
  replace h := theC_get h
  obtain ⟨_, h⟩ := h
  obtain ⟨k0, rfl, h9⟩ := run_succ h; replace h := h9; clear h9
  refine QW.seq ?_
  refine QW.region (Nat.zero_le _) (PW.regT (by kernel_rfl) ?_)
  refine XK.st (some 2) rfl rfl (sf_assign (v := .d (.val (.int .i64 (0)))) rfl rfl ?_)
  refine XK.nil (nrm ?_)
  refine QW.seq ?_
  refine QW.region (Nat.zero_le _) (PW.regT (by kernel_rfl) ?_)
  refine XK.st (some 3) rfl rfl (sf_assign (v := .d (.val (.int .i64 (0)))) rfl rfl ?_)
  refine XK.nil (nrm ?_)
  refine QW.seq ?_
  refine QW.seq ?_
  refine QW.region (Nat.zero_le _) (PW.regT (by kernel_rfl) ?_)
  refine XK.st (some 4) rfl rfl (sf_assign (v := .d (.val (.int .i64 (0)))) rfl rfl ?_)
  refine XK.nil (nrm ?_)
  refine QW.block ?_
  refine QW.loop (fun k σ => ∃ v3 : Int, ∃ v4 : Int, k ≤ k0 ∧ run (step_ref13_Bytes l0) k (.L1 v3 v4) = some r ∧ σ = ⟨tab [(0, .d (.slice (l0.map eS))), (3, .d (.val (.int .i64 v3))), (4, .d (.val (.int .i64 v4)))], tabH [], 0, []⟩) k0 (Nat.zero_le _) ⟨⟨tab [(0, .d (.slice (l0.map eS))), (3, .d (.val (.int .i64 (0)))), (4, .d (.val (.int .i64 (0))))], tabH [], 0, []⟩, View.mk 0 [] _ _ _ rfl rfl (by decide) (And.intro (Imp.of_eq rfl) (And.intro (Imp.of_eq rfl) (And.intro (Imp.of_eq rfl) trivial))) trivial rfl (Nat.zero_le _) rfl, 0, 0, Nat.le_refl _, jG h, rfl⟩ ?_
  rintro k1s _ ⟨v3, v4, k1h, h, rfl⟩
  obtain ⟨k1, rfl, h9⟩ := run_succ h; replace h := h9; clear h9
  refine QW.seq ?_
  refine QW.seq ?_
  refine QW.region (Nat.zero_le _) (PW.regT (by kernel_rfl) ?_)
  refine XK.st (some 5) rfl rfl (sf_move (v := .d (.val (.int .i64 v4))) rfl rfl ?_)
  refine XK.st (some 6) rfl rfl (sf_move (v := .d (.slice (l0.map eS))) rfl rfl ?_)
  refine XK.st (some 7) rfl rfl (sf_lenL (en := eS) (l := l0) rfl TT.under_34 rfl ?_)
  refine XK.st (some 8) rfl rfl (sf_lss (a := v4) (b := (l0.length : Int)) rfl rfl rfl ?_)
  refine XK.nil (nrm ?_)
  refine QW.cond (t := (decide (v4 < (l0.length : Int)))) rfl (Nat.zero_le _) (fun hb2 => ?_) (fun hb2 => ?_)
  · replace h := bGT h hb2
    refine QW.skip (Nat.zero_le _) (nrm ?_)
    refine QW.seq ?_
    refine QW.block ?_
    refine QW.region (Nat.zero_le _) (PW.regT (by kernel_rfl) ?_)
    refine XK.st (some 11) rfl rfl (sf_move (v := .d (.val (.int .i64 v3))) rfl rfl ?_)
    refine XK.st (some 12) rfl rfl (sf_move (v := .d (.slice (l0.map eS))) rfl rfl ?_)
    refine XK.st (some 13) rfl rfl (sf_move (v := .d (.val (.int .i64 v4))) rfl rfl ?_)
    obtain ⟨c3, h⟩ := gG h
    refine XK.st (some 14) rfl rfl (sf_idxA (l := l0) (i := v4) rfl TT.slcA_34 lay_S rfl rfl c3 ?_)
    refine XK.st (some 15) rfl rfl (sf_ldC (d := .val (sV (idx l0 v4))) rfl TT.tyA_9 rfl (LdC.one) ?_)
    refine XK.st (some 16) rfl rfl (sf_lenS (l := (idx l0 v4)) rfl TT.under_9 rfl ?_)
    obtain ⟨c4, h⟩ := gG h
    refine XK.st (some 17) rfl rfl (sf_add (a := v3) (b := ((idx l0 v4).length : Int)) rfl rfl rfl c4 ?_)
    refine XK.st (some 3) rfl rfl (sf_assign (v := .d (.val (.int .i64 (v3 + ((idx l0 v4).length : Int))))) rfl rfl ?_)
    refine XK.nil (blN (nrm ?_))
    refine QW.region (Nat.zero_le _) (PW.regT (by kernel_rfl) ?_)
    refine XK.st (some 9) rfl rfl (sf_move (v := .d (.val (.int .i64 v4))) rfl rfl ?_)
    obtain ⟨c5, h⟩ := gG h
    refine XK.st (some 10) rfl rfl (sf_add (a := v4) (b := (1 : Int)) rfl rfl rfl c5 ?_)
    refine XK.st (some 4) rfl rfl (sf_assign (v := .d (.val (.int .i64 (v4 + (1 : Int))))) rfl rfl ?_)
    refine XK.nil (nrm ?_)
    exact ⟨k1, by omega, ⟨tab [(0, .d (.slice (l0.map eS))), (3, .d (.val (.int .i64 (v3 + ((idx l0 v4).length : Int))))), (4, .d (.val (.int .i64 (v4 + (1 : Int)))))], tabH [], 0, []⟩, View.mk 0 [] _ _ _ rfl rfl (by decide) (And.intro (Imp.of_eq rfl) (And.intro (Imp.of_eq rfl) (And.intro (Imp.of_eq rfl) trivial))) trivial rfl (Nat.zero_le _) rfl, (v3 + ((idx l0 v4).length : Int)), (v4 + (1 : Int)), by omega, jG h, rfl⟩
  · replace h := bGF h hb2
    refine QW.exit (Nat.zero_le _) (thX (thX (exE (nrm ?_))))
    refine QW.seq ?_
    refine QW.region (Nat.zero_le _) (PW.regT (by kernel_rfl) ?_)
    refine XK.st (some 18) rfl rfl (sf_move (v := .d (.val (.int .i64 v3))) rfl rfl ?_)
    refine XK.st (some 2) rfl rfl (sf_assign (v := .d (.val (.int .i64 v3))) rfl rfl ?_)
    refine XK.nil (nrm ?_)
    refine QW.ret (Nat.zero_le _) ?_
    obtain rfl := sG h
    exact Ends.one (.inr rfl) rfl (ResIs.tmp rfl) rfl rfl

end Go.Proofs.Ytonlehebfeilmaa.K
