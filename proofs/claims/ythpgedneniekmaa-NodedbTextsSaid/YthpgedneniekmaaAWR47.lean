/- The references of layers 01, 16 and 47: what they reckon. -/
import Derived.Test.YthpgedneniekmaaAWPin
import Derived.KernelRfl
namespace Go.Proofs.Ythpgedneniekmaa.K
open Go Go.RowKit
set_option linter.unusedSimpArgs false
set_option linter.unusedVariables false
set_option maxRecDepth 20000
set_option maxHeartbeats 4000000
namespace TT
theorem arrE_41_32_5 : arrE Try.prog 41 32 5 = true := by kernel_rfl
theorem eqG_44 : Try.prog.eqGuardType Try.prog.depth 44 = false := by kernel_rfl
theorem fldsE_44 : fldsE Try.prog 44 = [(true, 0, 41), (true, 32, 3), (true, 33, 9)] := by kernel_rfl
theorem res_8 : Try.f8.results.toList = [.tmp 4] := rfl
theorem strE_44 : strE Try.prog 44 = true := by kernel_rfl
end TT
def beqRow (x y : Row) : Bool := (((x.fSum).1 == (y.fSum).1) && ((decide (x.fEpoch = y.fEpoch)) && (x.fBody == y.fBody)))
theorem eqA_Row {d : Nat} (x y : Row) : EqA Try.prog (d + 1 + 1 + 1) 44 (cRow x) (cRow y) (beqRow x y) := EqA.struct TT.strE_44 TT.fldsE_44 (FE.cons (EqV.agg TT.tyA_41 (show ((x.fSum).1.map byteD).length = 32 by rw [List.length_map, (x.fSum).2]) (show ((y.fSum).1.map byteD).length = 32 by rw [List.length_map, (y.fSum).2]) (EqA.arr (en := byteD) TT.arrE_41_32_5 (fun p q => EqV.u8 TT.tyA_5 TT.under_5) x.fSum y.fSum)) (FE.cons (EqV.int TT.tyA_3 TT.under_3) (FE.one (EqV.str TT.tyA_9 TT.under_9))))
theorem eqr_Row (x y : Row) : EqRun Try.prog 44 (.agg (cRow x)) (.agg (cRow y)) (beqRow x y) := EqA.run (eqA_Row (d := 9997) x y) TT.eqG_44
theorem beqRow_iff (x y : Row) : beqRow x y = true ↔ x = y := by
  cases x; cases y; simp [beqRow, Subtype.ext_iff]
inductive C_ref47_Same where
  | S
  | L1 (v5 : Int)
noncomputable def step_ref47_Same (a0 : (List Row)) (b1 : (List Row)) : C_ref47_Same → Option (C_ref47_Same ⊕ Bool)
  | .S =>
    (bif (!decide ((a0.length : Int) = (b1.length : Int))) then
    some (.inr false)
    else
    some (.inl (.L1 (0))))
  | .L1 v5 =>
    (bif (decide (v5 < (a0.length : Int))) then
    gO (0 ≤ v5 ∧ v5 < (a0.length : Int)) (
    gO (0 ≤ v5 ∧ v5 < (b1.length : Int)) (
    (bif (!(beqRow (idx a0 v5) (idx b1 v5))) then
    some (.inr false)
    else
    gO (inI (v5 + (1 : Int))) (
    some (.inl (.L1 (v5 + (1 : Int))))))))
    else
    some (.inr true))
noncomputable def g_ref47_Same (a0 : (List Row)) (b1 : (List Row)) : Option Bool := theC (step_ref47_Same a0 b1) .S
theorem sim_ref47_Same (a0 : (List Row)) (b1 : (List Row)) (r : Bool) (h : g_ref47_Same a0 b1 = some r) : Fun Try.prog 8 [.slice (a0.map eRow), .slice (b1.map eRow)] (.val (.bool r)) := by
  refine Fun.of_bodyQ Try.func8 rfl (by simp [Try.ntmps8]) ?_
  rw [Try.ntmps8, TT.res_8]
  refine QW.view (s' := ⟨tab [(0, .d (.slice (a0.map eRow))), (1, .d (.slice (b1.map eRow)))], tabH [], 0, []⟩) (View.init (by rfl)) zL ?_
  replace h := theC_get h
  obtain ⟨_, h⟩ := h
  obtain ⟨k_0, rfl, h9⟩ := run_succ h; replace h := h9; clear h9; rw [step_ref47_Same] at h
  refine sR ?_
  refine xz 4 (pB false) ?_
  refine QW.seq ?_
  refine sR ?_
  refine xm 6 (.d (.slice (a0.map eRow))) ?_
  refine xs 7 rfl (sf_lenL (en := eRow) (l := a0) rfl TT.under_38 rfl ?_)
  refine xm 8 (.d (.slice (b1.map eRow))) ?_
  refine xs 9 rfl (sf_lenL (en := eRow) (l := b1) rfl TT.under_38 rfl ?_)
  refine xs 10 rfl (sf_ne (a := (a0.length : Int)) (b := (b1.length : Int)) rfl rfl rfl ?_)
  refine XK.nz ?_
  refine QW.cond (t := (!decide ((a0.length : Int) = (b1.length : Int)))) rfl zL (fun hb_1 => ?_) (fun hb_1 => ?_)
  · replace h := bGT h hb_1
    refine sR ?_
    refine xz 4 (pB false) ?_
    refine QW.ret zL (thR ?_)
    obtain rfl := sG h
    exact Ends.one (.inr rfl) rfl (ResIs.tmp rfl) rfl rfl
  · replace h := bGF h hb_1
    refine QW.skip zL (nrm ?_)
    refine QW.seq ?_
    refine sR ?_
    refine xz 5 (pI (0)) ?_
    refine QW.block ?_
    refine QW.loop (fun k σ => ∃ v5 : Int, k ≤ k_0 ∧ run (step_ref47_Same a0 b1) k (.L1 v5) = some r ∧ σ = ⟨tab [(0, .d (.slice (a0.map eRow))), (1, .d (.slice (b1.map eRow))), (5, pI v5)], tabH [], 0, []⟩) k_0 zL ⟨⟨tab [(0, .d (.slice (a0.map eRow))), (1, .d (.slice (b1.map eRow))), (5, pI (0))], tabH [], 0, []⟩, View.mk 0 [] _ _ _ rfl rfl (by decide) (iC (iC (iC trivial))) trivial rfl zL rfl, 0, Nat.le_refl _, jG h, rfl⟩ ?_
    rintro k_2s _ ⟨v5, k_2h, h, rfl⟩
    obtain ⟨k_2, rfl, h9⟩ := run_succ h; replace h := h9; clear h9; rw [step_ref47_Same] at h
    refine QW.seq ?_
    refine sR ?_
    refine xm 11 (pI v5) ?_
    refine xm 12 (.d (.slice (a0.map eRow))) ?_
    refine xs 13 rfl (sf_lenL (en := eRow) (l := a0) rfl TT.under_38 rfl ?_)
    refine xs 14 rfl (sf_lss (a := v5) (b := (a0.length : Int)) rfl rfl rfl ?_)
    refine XK.nz ?_
    refine QW.cond (t := (decide (v5 < (a0.length : Int)))) rfl zL (fun hb_3 => ?_) (fun hb_3 => ?_)
    · replace h := bGT h hb_3
      refine QW.skip zL (nrm ?_)
      refine QW.seq ?_
      refine QW.block ?_
      refine QW.seq ?_
      refine QW.region zL (PW.regQ (id := 6) mixedX (M := _) rfl (by kernel_rfl) ?_)
      refine RQ.st (some 17) rfl rfl (sf_move (v := .d (.slice (a0.map eRow))) rfl rfl ⟨⟨rfl, rfl⟩, ?_⟩)
      refine RQ.st (some 18) rfl rfl (sf_move (v := pI v5) rfl rfl ⟨⟨rfl, rfl⟩, ?_⟩)
      obtain ⟨c_4, h⟩ := gG h
      refine RQ.st (some 19) rfl rfl (sf_idxA (l := a0) (i := v5) rfl TT.slcA_38 lay_Row rfl rfl c_4 ⟨⟨rfl, rfl⟩, ?_⟩)
      refine RQ.st (some 20) rfl rfl (sf_ldC (d := .agg (cRow (idx a0 v5))) rfl TT.tyA_44 rfl (⟨by rw [lay_Row.len]; decide, congrArg D.agg (List.take_of_length_le (by rw [lay_Row.len]; decide))⟩) ⟨⟨rfl, rfl⟩, ?_⟩)
      refine RQ.st (some 21) rfl rfl (sf_move (v := .d (.slice (b1.map eRow))) rfl rfl ⟨⟨rfl, rfl⟩, ?_⟩)
      refine RQ.st (some 22) rfl rfl (sf_move (v := pI v5) rfl rfl ⟨⟨rfl, rfl⟩, ?_⟩)
      obtain ⟨c_5, h⟩ := gG h
      refine RQ.st (some 23) rfl rfl (sf_idxA (l := b1) (i := v5) rfl TT.slcA_38 lay_Row rfl rfl c_5 ⟨⟨rfl, rfl⟩, ?_⟩)
      refine RQ.st (some 24) rfl rfl (sf_ldC (d := .agg (cRow (idx b1 v5))) rfl TT.tyA_44 rfl (⟨by rw [lay_Row.len]; decide, congrArg D.agg (List.take_of_length_le (by rw [lay_Row.len]; decide))⟩) ⟨⟨rfl, rfl⟩, ?_⟩)
      refine RQ.st (some 25) rfl rfl (sf_aggne rfl rfl rfl rfl (eqr_Row (idx a0 v5) (idx b1 v5)) ⟨⟨rfl, rfl⟩, ?_⟩)
      refine RQ.nil (nrm ?_)
      refine QW.cond (t := (!(beqRow (idx a0 v5) (idx b1 v5)))) rfl zL (fun hb_6 => ?_) (fun hb_6 => ?_)
      · replace h := bGT h hb_6
        refine sR ?_
        refine xz 4 (pB false) ?_
        refine QW.ret zL (blR (thR (thR (blR (thR ?_)))))
        obtain rfl := sG h
        exact Ends.one (.inr rfl) rfl (ResIs.tmp rfl) rfl rfl
      · replace h := bGF h hb_6
        refine QW.skip zL (blN (nrm ?_))
        refine rG ?_
        refine xm 15 (pI v5) ?_
        obtain ⟨c_7, h⟩ := gG h
        refine xs 16 rfl (sf_add (a := v5) (b := (1 : Int)) rfl rfl rfl c_7 ?_)
        refine xz 5 (pI (v5 + (1 : Int))) ?_
        exact ⟨k_2, by omega, ⟨tab [(0, .d (.slice (a0.map eRow))), (1, .d (.slice (b1.map eRow))), (5, pI (v5 + (1 : Int)))], tabH [], 0, []⟩, View.mk 0 [] _ _ _ rfl rfl (by decide) (iC (iC (iC trivial))) trivial rfl zL rfl, (v5 + (1 : Int)), by omega, jG h, rfl⟩
    · replace h := bGF h hb_3
      refine QW.exit zL (thX (thX (exE (nrm ?_))))
      refine sR ?_
      refine xz 4 (pB true) ?_
      refine QW.ret zL ?_
      obtain rfl := sG h
      exact Ends.one (.inr rfl) rfl (ResIs.tmp rfl) rfl rfl
end Go.Proofs.Ythpgedneniekmaa.K
