/- The laws of layer 47: what they reckon. -/
import Derived.Test.YtoeppofkmcdknaaWR47
import Derived.KernelRfl
namespace Go.Proofs.Ytoeppofkmcdknaa.K
open Go Go.RowKit
set_option linter.unusedSimpArgs false
set_option linter.unusedVariables false
namespace TT
theorem bldA_35 : bldA Try.prog 35 = some ([Value.int IntKind.u8 0, Value.int IntKind.u8 0, Value.int IntKind.u8 0, Value.int IntKind.u8 0, Value.int IntKind.u8 0, Value.int IntKind.u8 0, Value.int IntKind.u8 0, Value.int IntKind.u8 0, Value.int IntKind.u8 0, Value.int IntKind.u8 0, Value.int IntKind.u8 0, Value.int IntKind.u8 0, Value.int IntKind.u8 0, Value.int IntKind.u8 0, Value.int IntKind.u8 0, Value.int IntKind.u8 0, Value.int IntKind.u8 0, Value.int IntKind.u8 0, Value.int IntKind.u8 0, Value.int IntKind.u8 0, Value.int IntKind.u8 0, Value.int IntKind.u8 0, Value.int IntKind.u8 0, Value.int IntKind.u8 0, Value.int IntKind.u8 0, Value.int IntKind.u8 0, Value.int IntKind.u8 0, Value.int IntKind.u8 0, Value.int IntKind.u8 0, Value.int IntKind.u8 0, Value.int IntKind.u8 0, Value.int IntKind.u8 0], .inr 1) := by kernel_rfl
theorem enters_15 : entersB Try.prog 15 = true := by kernel_rfl
theorem enters_16 : entersB Try.prog 16 = true := by kernel_rfl
theorem enters_18 : entersB Try.prog 18 = true := by kernel_rfl
theorem enters_20 : entersB Try.prog 20 = true := by kernel_rfl
theorem enters_21 : entersB Try.prog 21 = true := by kernel_rfl
theorem enters_22 : entersB Try.prog 22 = true := by kernel_rfl
theorem enters_23 : entersB Try.prog 23 = true := by kernel_rfl
theorem enters_24 : entersB Try.prog 24 = true := by kernel_rfl
theorem enters_25 : entersB Try.prog 25 = true := by kernel_rfl
theorem enters_27 : entersB Try.prog 27 = true := by kernel_rfl
theorem enters_29 : entersB Try.prog 29 = true := by kernel_rfl
theorem enters_30 : entersB Try.prog 30 = true := by kernel_rfl
theorem res_15 : Try.f15.results.toList = [.tmp 2] := rfl
theorem res_16 : Try.f16.results.toList = [.tmp 0] := rfl
theorem res_3 : Try.f3.results.toList = [.tmp 4] := rfl
theorem res_4 : Try.f4.results.toList = [.tmp 2] := rfl
theorem res_5 : Try.f5.results.toList = [.tmp 6] := rfl
theorem under_4 : Program.underlying Try.prog 4 = some (.bool) := by kernel_rfl
end TT

theorem bld_Row_0_2 (v0 : (Arr 32 UInt8)) (v2 : (List UInt8)) : (buildP (some ([Value.int IntKind.u8 0, Value.int IntKind.u8 0, Value.int IntKind.u8 0, Value.int IntKind.u8 0, Value.int IntKind.u8 0, Value.int IntKind.u8 0, Value.int IntKind.u8 0, Value.int IntKind.u8 0, Value.int IntKind.u8 0, Value.int IntKind.u8 0, Value.int IntKind.u8 0, Value.int IntKind.u8 0, Value.int IntKind.u8 0, Value.int IntKind.u8 0, Value.int IntKind.u8 0, Value.int IntKind.u8 0, Value.int IntKind.u8 0, Value.int IntKind.u8 0, Value.int IntKind.u8 0, Value.int IntKind.u8 0, Value.int IntKind.u8 0, Value.int IntKind.u8 0, Value.int IntKind.u8 0, Value.int IntKind.u8 0, Value.int IntKind.u8 0, Value.int IntKind.u8 0, Value.int IntKind.u8 0, Value.int IntKind.u8 0, Value.int IntKind.u8 0, Value.int IntKind.u8 0, Value.int IntKind.u8 0, Value.int IntKind.u8 0, Value.int IntKind.i64 0, Value.string ⟨#[]⟩], .inl [(0, 32), (32, 1), (33, 1)])) [(0, .d (.agg (v0.1.map byteD))), (2, .d (.val (sV v2)))]).2 ∧ (buildP (some ([Value.int IntKind.u8 0, Value.int IntKind.u8 0, Value.int IntKind.u8 0, Value.int IntKind.u8 0, Value.int IntKind.u8 0, Value.int IntKind.u8 0, Value.int IntKind.u8 0, Value.int IntKind.u8 0, Value.int IntKind.u8 0, Value.int IntKind.u8 0, Value.int IntKind.u8 0, Value.int IntKind.u8 0, Value.int IntKind.u8 0, Value.int IntKind.u8 0, Value.int IntKind.u8 0, Value.int IntKind.u8 0, Value.int IntKind.u8 0, Value.int IntKind.u8 0, Value.int IntKind.u8 0, Value.int IntKind.u8 0, Value.int IntKind.u8 0, Value.int IntKind.u8 0, Value.int IntKind.u8 0, Value.int IntKind.u8 0, Value.int IntKind.u8 0, Value.int IntKind.u8 0, Value.int IntKind.u8 0, Value.int IntKind.u8 0, Value.int IntKind.u8 0, Value.int IntKind.u8 0, Value.int IntKind.u8 0, Value.int IntKind.u8 0, Value.int IntKind.i64 0, Value.string ⟨#[]⟩], .inl [(0, 32), (32, 1), (33, 1)])) [(0, .d (.agg (v0.1.map byteD))), (2, .d (.val (sV v2)))]).1 = .agg ((cRow (⟨v0, (0 : Int), v2⟩ : Row)).map .d) :=
  build_of rfl (show (fillP _ ((cRow ({ fSum := (Arr.rep 32 (0 : UInt8)), fEpoch := (0 : Int), fBody := ([] : (List UInt8)) } : Row)).map PV.d) _).2 ∧ (fillP _ ((cRow ({ fSum := (Arr.rep 32 (0 : UInt8)), fEpoch := (0 : Int), fBody := ([] : (List UInt8)) } : Row)).map PV.d) _).1 = _ from (fill_step rfl rfl (show ((v0.1.map byteD).map PV.d).length = 32 by rw [List.length_map, List.length_map, v0.2]) (by rw [List.length_map, lay_Row.len]; decide) (spl_Row_0 _ v0) (fill_step rfl rfl rfl (by rw [List.length_map, lay_Row.len]; decide) (spl_Row_2 _ v2) fill_nil)))
inductive C_law47_light where
  | S
  | L1 (v3 : Int)

noncomputable def step_law47_light (l0 : (List Row)) : C_law47_light → Option (C_law47_light ⊕ Bool)
  | .S =>
    some (.inl (.L1 (0)))
  | .L1 v3 =>
    (bif (decide (v3 < (l0.length : Int))) then
    gO (0 ≤ v3 ∧ v3 < (l0.length : Int)) (
    (bif (decide ((300 : Int) < (((idx l0 v3).fBody).length : Int))) then
    some (.inr false)
    else
    gO (inI (v3 + (1 : Int))) (
    some (.inl (.L1 (v3 + (1 : Int)))))))
    else
    some (.inr (decide ((l0.length : Int) ≤ (40 : Int)))))

noncomputable def g_law47_light (l0 : (List Row)) : Option Bool := theC (step_law47_light l0) .S

set_option maxRecDepth 20000 in
set_option maxHeartbeats 4000000 in
theorem sim_law47_light (l0 : (List Row)) (r : Bool) (h : g_law47_light l0 = some r) : Fun Try.prog 15 [.slice (l0.map eRow)] (.val (.bool r)) := by
  refine Fun.of_bodyQ Try.func15 rfl (by simp [Try.ntmps15]) ?_
  rw [Try.ntmps15, TT.res_15]
  refine QW.view (s' := ⟨tab [(0, .d (.slice (l0.map eRow)))], tabH [], 0, []⟩) (View.init (by rfl)) (Nat.zero_le _) ?_
  replace h := theC_get h
  obtain ⟨_, h⟩ := h
  obtain ⟨k_0, rfl, h9⟩ := run_succ h; replace h := h9; clear h9; rw [step_law47_light] at h
  refine QW.seq ?_
  refine QW.region (Nat.zero_le _) (PW.regT (by kernel_rfl) ?_)
  refine XK.st (some 2) rfl rfl (sf_assign (v := .d (.val (.bool false))) rfl rfl ?_)
  refine XK.nil (nrm ?_)
  refine QW.seq ?_
  refine QW.seq ?_
  refine QW.region (Nat.zero_le _) (PW.regT (by kernel_rfl) ?_)
  refine XK.st (some 3) rfl rfl (sf_assign (v := .d (.val (.int .i64 (0)))) rfl rfl ?_)
  refine XK.nil (nrm ?_)
  refine QW.block ?_
  refine QW.loop (fun k σ => ∃ v3 : Int, k ≤ k_0 ∧ run (step_law47_light l0) k (.L1 v3) = some r ∧ σ = ⟨tab [(0, .d (.slice (l0.map eRow))), (3, .d (.val (.int .i64 v3)))], tabH [], 0, []⟩) k_0 (Nat.zero_le _) ⟨⟨tab [(0, .d (.slice (l0.map eRow))), (3, .d (.val (.int .i64 (0))))], tabH [], 0, []⟩, View.mk 0 [] _ _ _ rfl rfl (by decide) (And.intro (Imp.of_eq rfl) (And.intro (Imp.of_eq rfl) trivial)) trivial rfl (Nat.zero_le _) rfl, 0, Nat.le_refl _, jG h, rfl⟩ ?_
  rintro k_1s _ ⟨v3, k_1h, h, rfl⟩
  obtain ⟨k_1, rfl, h9⟩ := run_succ h; replace h := h9; clear h9; rw [step_law47_light] at h
  refine QW.seq ?_
  refine QW.seq ?_
  refine QW.region (Nat.zero_le _) (PW.regT (by kernel_rfl) ?_)
  refine XK.st (some 4) rfl rfl (sf_move (v := .d (.val (.int .i64 v3))) rfl rfl ?_)
  refine XK.st (some 5) rfl rfl (sf_move (v := .d (.slice (l0.map eRow))) rfl rfl ?_)
  refine XK.st (some 6) rfl rfl (sf_lenL (en := eRow) (l := l0) rfl TT.under_22 rfl ?_)
  refine XK.st (some 7) rfl rfl (sf_lss (a := v3) (b := (l0.length : Int)) rfl rfl rfl ?_)
  refine XK.nil (nrm ?_)
  refine QW.cond (t := (decide (v3 < (l0.length : Int)))) rfl (Nat.zero_le _) (fun hb_2 => ?_) (fun hb_2 => ?_)
  · replace h := bGT h hb_2
    refine QW.skip (Nat.zero_le _) (nrm ?_)
    refine QW.seq ?_
    refine QW.block ?_
    refine QW.seq ?_
    refine QW.region (Nat.zero_le _) (PW.regT (by kernel_rfl) ?_)
    refine XK.st (some 10) rfl rfl (sf_move (v := .d (.slice (l0.map eRow))) rfl rfl ?_)
    refine XK.st (some 11) rfl rfl (sf_move (v := .d (.val (.int .i64 v3))) rfl rfl ?_)
    obtain ⟨c_3, h⟩ := gG h
    refine XK.st (some 12) rfl rfl (sf_idxA (l := l0) (i := v3) rfl TT.slcA_22 lay_Row rfl rfl c_3 ?_)
    refine XK.st (some 13) rfl rfl (sf_fldC rfl TT.fldA_37_2 (by decide) rfl ?_)
    refine XK.st (some 14) rfl rfl (sf_ldC (d := .val (sV ((idx l0 v3).fBody))) rfl TT.tyA_9 rfl (ldc_Row_2 _) ?_)
    refine XK.st (some 15) rfl rfl (sf_lenS (l := (idx l0 v3).fBody) rfl TT.under_9 rfl ?_)
    refine XK.st (some 16) rfl rfl (sf_gtr (a := (((idx l0 v3).fBody).length : Int)) (b := (300 : Int)) rfl rfl rfl ?_)
    refine XK.nil (nrm ?_)
    refine QW.cond (t := (decide ((300 : Int) < (((idx l0 v3).fBody).length : Int)))) rfl (Nat.zero_le _) (fun hb_4 => ?_) (fun hb_4 => ?_)
    · replace h := bGT h hb_4
      refine QW.seq ?_
      refine QW.region (Nat.zero_le _) (PW.regT (by kernel_rfl) ?_)
      refine XK.st (some 2) rfl rfl (sf_assign (v := .d (.val (.bool false))) rfl rfl ?_)
      refine XK.nil (nrm ?_)
      refine QW.ret (Nat.zero_le _) (blR (thR (thR (blR (thR ?_)))))
      obtain rfl := sG h
      exact Ends.one (.inr rfl) rfl (ResIs.tmp rfl) rfl rfl
    · replace h := bGF h hb_4
      refine QW.skip (Nat.zero_le _) (blN (nrm ?_))
      refine QW.region (Nat.zero_le _) (PW.regT (by kernel_rfl) ?_)
      refine XK.st (some 8) rfl rfl (sf_move (v := .d (.val (.int .i64 v3))) rfl rfl ?_)
      obtain ⟨c_5, h⟩ := gG h
      refine XK.st (some 9) rfl rfl (sf_add (a := v3) (b := (1 : Int)) rfl rfl rfl c_5 ?_)
      refine XK.st (some 3) rfl rfl (sf_assign (v := .d (.val (.int .i64 (v3 + (1 : Int))))) rfl rfl ?_)
      refine XK.nil (nrm ?_)
      exact ⟨k_1, by omega, ⟨tab [(0, .d (.slice (l0.map eRow))), (3, .d (.val (.int .i64 (v3 + (1 : Int)))))], tabH [], 0, []⟩, View.mk 0 [] _ _ _ rfl rfl (by decide) (And.intro (Imp.of_eq rfl) (And.intro (Imp.of_eq rfl) trivial)) trivial rfl (Nat.zero_le _) rfl, (v3 + (1 : Int)), by omega, jG h, rfl⟩
  · replace h := bGF h hb_2
    refine QW.exit (Nat.zero_le _) (thX (thX (exE (nrm ?_))))
    refine QW.seq ?_
    refine QW.region (Nat.zero_le _) (PW.regT (by kernel_rfl) ?_)
    refine XK.st (some 17) rfl rfl (sf_move (v := .d (.slice (l0.map eRow))) rfl rfl ?_)
    refine XK.st (some 18) rfl rfl (sf_lenL (en := eRow) (l := l0) rfl TT.under_22 rfl ?_)
    refine XK.st (some 19) rfl rfl (sf_leq (a := (l0.length : Int)) (b := (40 : Int)) rfl rfl rfl ?_)
    refine XK.st (some 2) rfl rfl (sf_assign (v := .d (.val (.bool (decide ((l0.length : Int) ≤ (40 : Int)))))) rfl rfl ?_)
    refine XK.nil (nrm ?_)
    refine QW.ret (Nat.zero_le _) ?_
    obtain rfl := sG h
    exact Ends.one (.inr rfl) rfl (ResIs.tmp rfl) rfl rfl

noncomputable def g_law47_awake  : Option Bool :=
    ((g_page_Insert ([(⟨(⟨[(1 : UInt8), (0 : UInt8), (0 : UInt8), (0 : UInt8), (0 : UInt8), (0 : UInt8), (0 : UInt8), (0 : UInt8), (0 : UInt8), (0 : UInt8), (0 : UInt8), (0 : UInt8), (0 : UInt8), (0 : UInt8), (0 : UInt8), (0 : UInt8), (0 : UInt8), (0 : UInt8), (0 : UInt8), (0 : UInt8), (0 : UInt8), (0 : UInt8), (0 : UInt8), (0 : UInt8), (0 : UInt8), (0 : UInt8), (0 : UInt8), (0 : UInt8), (0 : UInt8), (0 : UInt8), (0 : UInt8), (0 : UInt8)], rfl⟩ : (Arr 32 UInt8)), 2, ([] : List UInt8)⟩ : Row)] : List Row) (⟨(⟨[(1 : UInt8), (0 : UInt8), (0 : UInt8), (0 : UInt8), (0 : UInt8), (0 : UInt8), (0 : UInt8), (0 : UInt8), (0 : UInt8), (0 : UInt8), (0 : UInt8), (0 : UInt8), (0 : UInt8), (0 : UInt8), (0 : UInt8), (0 : UInt8), (0 : UInt8), (0 : UInt8), (0 : UInt8), (0 : UInt8), (0 : UInt8), (0 : UInt8), (0 : UInt8), (0 : UInt8), (0 : UInt8), (0 : UInt8), (0 : UInt8), (0 : UInt8), (0 : UInt8), (0 : UInt8), (0 : UInt8), (0 : UInt8)], rfl⟩ : (Arr 32 UInt8)), 0, ([97] : List UInt8)⟩ : Row)).bind fun (x_1 : ((List Row) × Bool)) =>
    ((g_page_Put (x_1.1)).bind fun (x_3 : ((List UInt8) × Int)) =>
    ((g_page_Get (x_3.1)).bind fun (x_5 : ((List Row) × Int)) =>
    ((g_page_Split (x_1.1)).bind fun (x_7 : ((List Row) × (List Row))) =>
    ((g_page_Find (x_1.1) (⟨[(1 : UInt8), (0 : UInt8), (0 : UInt8), (0 : UInt8), (0 : UInt8), (0 : UInt8), (0 : UInt8), (0 : UInt8), (0 : UInt8), (0 : UInt8), (0 : UInt8), (0 : UInt8), (0 : UInt8), (0 : UInt8), (0 : UInt8), (0 : UInt8), (0 : UInt8), (0 : UInt8), (0 : UInt8), (0 : UInt8), (0 : UInt8), (0 : UInt8), (0 : UInt8), (0 : UInt8), (0 : UInt8), (0 : UInt8), (0 : UInt8), (0 : UInt8), (0 : UInt8), (0 : UInt8), (0 : UInt8), (0 : UInt8)], rfl⟩ : (Arr 32 UInt8)) (2)).bind fun (x_9 : (Int × Bool)) =>
    gO (((x_1.2 && (decide (((x_1.1).length : Int) = (2 : Int)))) == true) = true → 0 ≤ (0 : Int) ∧ (0 : Int) < ((x_1.1).length : Int)) (
    ((bif ((((((x_1.2 && (decide (((x_1.1).length : Int) = (2 : Int)))) && (beqRow (idx (x_1.1) (0 : Int)) (⟨(⟨[(1 : UInt8), (0 : UInt8), (0 : UInt8), (0 : UInt8), (0 : UInt8), (0 : UInt8), (0 : UInt8), (0 : UInt8), (0 : UInt8), (0 : UInt8), (0 : UInt8), (0 : UInt8), (0 : UInt8), (0 : UInt8), (0 : UInt8), (0 : UInt8), (0 : UInt8), (0 : UInt8), (0 : UInt8), (0 : UInt8), (0 : UInt8), (0 : UInt8), (0 : UInt8), (0 : UInt8), (0 : UInt8), (0 : UInt8), (0 : UInt8), (0 : UInt8), (0 : UInt8), (0 : UInt8), (0 : UInt8), (0 : UInt8)], rfl⟩ : (Arr 32 UInt8)), 0, ([97] : List UInt8)⟩ : Row))) && (decide ((x_3.2) = (0 : Int)))) && (decide (((x_3.1).length : Int) = (82 : Int)))) && (decide ((x_5.2) = (0 : Int)))) == true) then g_page_Same (x_1.1) (x_5.1) else some default).bind fun (x_12 : Bool) =>
    ((bif (((((((((((x_1.2 && (decide (((x_1.1).length : Int) = (2 : Int)))) && (beqRow (idx (x_1.1) (0 : Int)) (⟨(⟨[(1 : UInt8), (0 : UInt8), (0 : UInt8), (0 : UInt8), (0 : UInt8), (0 : UInt8), (0 : UInt8), (0 : UInt8), (0 : UInt8), (0 : UInt8), (0 : UInt8), (0 : UInt8), (0 : UInt8), (0 : UInt8), (0 : UInt8), (0 : UInt8), (0 : UInt8), (0 : UInt8), (0 : UInt8), (0 : UInt8), (0 : UInt8), (0 : UInt8), (0 : UInt8), (0 : UInt8), (0 : UInt8), (0 : UInt8), (0 : UInt8), (0 : UInt8), (0 : UInt8), (0 : UInt8), (0 : UInt8), (0 : UInt8)], rfl⟩ : (Arr 32 UInt8)), 0, ([97] : List UInt8)⟩ : Row))) && (decide ((x_3.2) = (0 : Int)))) && (decide (((x_3.1).length : Int) = (82 : Int)))) && (decide ((x_5.2) = (0 : Int)))) && x_12) && (decide (((x_7.1).length : Int) = (1 : Int)))) && (decide (((x_7.2).length : Int) = (1 : Int)))) && (decide ((x_9.1) = (1 : Int)))) && x_9.2) == true) then g_page_Remove (x_1.1) (0) else some default).bind fun (x_14 : (List Row)) =>
    ((bif ((((((((((((x_1.2 && (decide (((x_1.1).length : Int) = (2 : Int)))) && (beqRow (idx (x_1.1) (0 : Int)) (⟨(⟨[(1 : UInt8), (0 : UInt8), (0 : UInt8), (0 : UInt8), (0 : UInt8), (0 : UInt8), (0 : UInt8), (0 : UInt8), (0 : UInt8), (0 : UInt8), (0 : UInt8), (0 : UInt8), (0 : UInt8), (0 : UInt8), (0 : UInt8), (0 : UInt8), (0 : UInt8), (0 : UInt8), (0 : UInt8), (0 : UInt8), (0 : UInt8), (0 : UInt8), (0 : UInt8), (0 : UInt8), (0 : UInt8), (0 : UInt8), (0 : UInt8), (0 : UInt8), (0 : UInt8), (0 : UInt8), (0 : UInt8), (0 : UInt8)], rfl⟩ : (Arr 32 UInt8)), 0, ([97] : List UInt8)⟩ : Row))) && (decide ((x_3.2) = (0 : Int)))) && (decide (((x_3.1).length : Int) = (82 : Int)))) && (decide ((x_5.2) = (0 : Int)))) && x_12) && (decide (((x_7.1).length : Int) = (1 : Int)))) && (decide (((x_7.2).length : Int) = (1 : Int)))) && (decide ((x_9.1) = (1 : Int)))) && x_9.2) && (decide ((x_14.length : Int) = (1 : Int)))) == true) then g_page_Less (⟨(⟨[(1 : UInt8), (0 : UInt8), (0 : UInt8), (0 : UInt8), (0 : UInt8), (0 : UInt8), (0 : UInt8), (0 : UInt8), (0 : UInt8), (0 : UInt8), (0 : UInt8), (0 : UInt8), (0 : UInt8), (0 : UInt8), (0 : UInt8), (0 : UInt8), (0 : UInt8), (0 : UInt8), (0 : UInt8), (0 : UInt8), (0 : UInt8), (0 : UInt8), (0 : UInt8), (0 : UInt8), (0 : UInt8), (0 : UInt8), (0 : UInt8), (0 : UInt8), (0 : UInt8), (0 : UInt8), (0 : UInt8), (0 : UInt8)], rfl⟩ : (Arr 32 UInt8)), 0, ([97] : List UInt8)⟩ : Row) (⟨(⟨[(1 : UInt8), (0 : UInt8), (0 : UInt8), (0 : UInt8), (0 : UInt8), (0 : UInt8), (0 : UInt8), (0 : UInt8), (0 : UInt8), (0 : UInt8), (0 : UInt8), (0 : UInt8), (0 : UInt8), (0 : UInt8), (0 : UInt8), (0 : UInt8), (0 : UInt8), (0 : UInt8), (0 : UInt8), (0 : UInt8), (0 : UInt8), (0 : UInt8), (0 : UInt8), (0 : UInt8), (0 : UInt8), (0 : UInt8), (0 : UInt8), (0 : UInt8), (0 : UInt8), (0 : UInt8), (0 : UInt8), (0 : UInt8)], rfl⟩ : (Arr 32 UInt8)), 2, ([] : List UInt8)⟩ : Row) else some default).bind fun (x_16 : Bool) =>
    some ((((((((((((x_1.2 && (decide (((x_1.1).length : Int) = (2 : Int)))) && (beqRow (idx (x_1.1) (0 : Int)) (⟨(⟨[(1 : UInt8), (0 : UInt8), (0 : UInt8), (0 : UInt8), (0 : UInt8), (0 : UInt8), (0 : UInt8), (0 : UInt8), (0 : UInt8), (0 : UInt8), (0 : UInt8), (0 : UInt8), (0 : UInt8), (0 : UInt8), (0 : UInt8), (0 : UInt8), (0 : UInt8), (0 : UInt8), (0 : UInt8), (0 : UInt8), (0 : UInt8), (0 : UInt8), (0 : UInt8), (0 : UInt8), (0 : UInt8), (0 : UInt8), (0 : UInt8), (0 : UInt8), (0 : UInt8), (0 : UInt8), (0 : UInt8), (0 : UInt8)], rfl⟩ : (Arr 32 UInt8)), 0, ([97] : List UInt8)⟩ : Row))) && (decide ((x_3.2) = (0 : Int)))) && (decide (((x_3.1).length : Int) = (82 : Int)))) && (decide ((x_5.2) = (0 : Int)))) && x_12) && (decide (((x_7.1).length : Int) = (1 : Int)))) && (decide (((x_7.2).length : Int) = (1 : Int)))) && (decide ((x_9.1) = (1 : Int)))) && x_9.2) && (decide ((x_14.length : Int) = (1 : Int)))) && x_16))))))))))

set_option maxRecDepth 20000 in
set_option maxHeartbeats 4000000 in
theorem sim_law47_awake  (r : Bool) (h : g_law47_awake  = some r) : Fun Try.prog 16 [] (.val (.bool r)) := by
  refine Fun.of_bodyQ Try.func16 rfl (by simp [Try.ntmps16]) ?_
  rw [Try.ntmps16, TT.res_16]
  refine QW.view (s' := ⟨tab [], tabH [], 0, []⟩) (View.init (by rfl)) (Nat.zero_le _) ?_
  unfold g_law47_awake at h
  refine QW.seq ?_
  refine QW.region (Nat.zero_le _) (PW.regT (by kernel_rfl) ?_)
  refine XK.st (some 0) rfl rfl (sf_assign (v := .d (.val (.bool false))) rfl rfl ?_)
  refine XK.nil (nrm ?_)
  refine QW.seq ?_
  refine QW.region (Nat.zero_le _) (PW.regT (by kernel_rfl) ?_)
  refine XK.as (some 13) rfl rfl (sf_build (v := .agg [.d (.val (.int .u8 ((1 : UInt8).toNat : Int))), .d (.val (.int .u8 ((0 : UInt8).toNat : Int))), .d (.val (.int .u8 ((0 : UInt8).toNat : Int))), .d (.val (.int .u8 ((0 : UInt8).toNat : Int))), .d (.val (.int .u8 ((0 : UInt8).toNat : Int))), .d (.val (.int .u8 ((0 : UInt8).toNat : Int))), .d (.val (.int .u8 ((0 : UInt8).toNat : Int))), .d (.val (.int .u8 ((0 : UInt8).toNat : Int))), .d (.val (.int .u8 ((0 : UInt8).toNat : Int))), .d (.val (.int .u8 ((0 : UInt8).toNat : Int))), .d (.val (.int .u8 ((0 : UInt8).toNat : Int))), .d (.val (.int .u8 ((0 : UInt8).toNat : Int))), .d (.val (.int .u8 ((0 : UInt8).toNat : Int))), .d (.val (.int .u8 ((0 : UInt8).toNat : Int))), .d (.val (.int .u8 ((0 : UInt8).toNat : Int))), .d (.val (.int .u8 ((0 : UInt8).toNat : Int))), .d (.val (.int .u8 ((0 : UInt8).toNat : Int))), .d (.val (.int .u8 ((0 : UInt8).toNat : Int))), .d (.val (.int .u8 ((0 : UInt8).toNat : Int))), .d (.val (.int .u8 ((0 : UInt8).toNat : Int))), .d (.val (.int .u8 ((0 : UInt8).toNat : Int))), .d (.val (.int .u8 ((0 : UInt8).toNat : Int))), .d (.val (.int .u8 ((0 : UInt8).toNat : Int))), .d (.val (.int .u8 ((0 : UInt8).toNat : Int))), .d (.val (.int .u8 ((0 : UInt8).toNat : Int))), .d (.val (.int .u8 ((0 : UInt8).toNat : Int))), .d (.val (.int .u8 ((0 : UInt8).toNat : Int))), .d (.val (.int .u8 ((0 : UInt8).toNat : Int))), .d (.val (.int .u8 ((0 : UInt8).toNat : Int))), .d (.val (.int .u8 ((0 : UInt8).toNat : Int))), .d (.val (.int .u8 ((0 : UInt8).toNat : Int))), .d (.val (.int .u8 ((0 : UInt8).toNat : Int)))]) rfl (by rw [TT.bldA_35]; simp [buildP, fillP, placeOf, partsQ, evP, PV.solid, PV.cellsP, Value.oneCell', spl, cellV, ofVal, List.all, putS_at, tab, unS, unT, asCond, unC]) (by rw [TT.bldA_35]; rfl) ⟨.d (.agg ((⟨[(1 : UInt8), (0 : UInt8), (0 : UInt8), (0 : UInt8), (0 : UInt8), (0 : UInt8), (0 : UInt8), (0 : UInt8), (0 : UInt8), (0 : UInt8), (0 : UInt8), (0 : UInt8), (0 : UInt8), (0 : UInt8), (0 : UInt8), (0 : UInt8), (0 : UInt8), (0 : UInt8), (0 : UInt8), (0 : UInt8), (0 : UInt8), (0 : UInt8), (0 : UInt8), (0 : UInt8), (0 : UInt8), (0 : UInt8), (0 : UInt8), (0 : UInt8), (0 : UInt8), (0 : UInt8), (0 : UInt8), (0 : UInt8)], rfl⟩ : (Arr 32 UInt8)).1.map byteD)), (Imp.toD rfl), ?_⟩)
  refine XK.as (some 14) rfl rfl (sf_bld (v := .agg ((cRow (⟨(⟨[(1 : UInt8), (0 : UInt8), (0 : UInt8), (0 : UInt8), (0 : UInt8), (0 : UInt8), (0 : UInt8), (0 : UInt8), (0 : UInt8), (0 : UInt8), (0 : UInt8), (0 : UInt8), (0 : UInt8), (0 : UInt8), (0 : UInt8), (0 : UInt8), (0 : UInt8), (0 : UInt8), (0 : UInt8), (0 : UInt8), (0 : UInt8), (0 : UInt8), (0 : UInt8), (0 : UInt8), (0 : UInt8), (0 : UInt8), (0 : UInt8), (0 : UInt8), (0 : UInt8), (0 : UInt8), (0 : UInt8), (0 : UInt8)], rfl⟩ : (Arr 32 UInt8)), 0, ([97] : List UInt8)⟩ : Row)).map .d)) rfl TT.bldA_37 (bld_Row_0_2 (⟨[(1 : UInt8), (0 : UInt8), (0 : UInt8), (0 : UInt8), (0 : UInt8), (0 : UInt8), (0 : UInt8), (0 : UInt8), (0 : UInt8), (0 : UInt8), (0 : UInt8), (0 : UInt8), (0 : UInt8), (0 : UInt8), (0 : UInt8), (0 : UInt8), (0 : UInt8), (0 : UInt8), (0 : UInt8), (0 : UInt8), (0 : UInt8), (0 : UInt8), (0 : UInt8), (0 : UInt8), (0 : UInt8), (0 : UInt8), (0 : UInt8), (0 : UInt8), (0 : UInt8), (0 : UInt8), (0 : UInt8), (0 : UInt8)], rfl⟩ : (Arr 32 UInt8)) ([97] : List UInt8)) ⟨.d (.agg (cRow (⟨(⟨[(1 : UInt8), (0 : UInt8), (0 : UInt8), (0 : UInt8), (0 : UInt8), (0 : UInt8), (0 : UInt8), (0 : UInt8), (0 : UInt8), (0 : UInt8), (0 : UInt8), (0 : UInt8), (0 : UInt8), (0 : UInt8), (0 : UInt8), (0 : UInt8), (0 : UInt8), (0 : UInt8), (0 : UInt8), (0 : UInt8), (0 : UInt8), (0 : UInt8), (0 : UInt8), (0 : UInt8), (0 : UInt8), (0 : UInt8), (0 : UInt8), (0 : UInt8), (0 : UInt8), (0 : UInt8), (0 : UInt8), (0 : UInt8)], rfl⟩ : (Arr 32 UInt8)), 0, ([97] : List UInt8)⟩ : Row))), imp_arr, ?_⟩)
  refine XK.as (some 15) rfl rfl (sf_build (v := .agg [.d (.val (.int .u8 ((1 : UInt8).toNat : Int))), .d (.val (.int .u8 ((0 : UInt8).toNat : Int))), .d (.val (.int .u8 ((0 : UInt8).toNat : Int))), .d (.val (.int .u8 ((0 : UInt8).toNat : Int))), .d (.val (.int .u8 ((0 : UInt8).toNat : Int))), .d (.val (.int .u8 ((0 : UInt8).toNat : Int))), .d (.val (.int .u8 ((0 : UInt8).toNat : Int))), .d (.val (.int .u8 ((0 : UInt8).toNat : Int))), .d (.val (.int .u8 ((0 : UInt8).toNat : Int))), .d (.val (.int .u8 ((0 : UInt8).toNat : Int))), .d (.val (.int .u8 ((0 : UInt8).toNat : Int))), .d (.val (.int .u8 ((0 : UInt8).toNat : Int))), .d (.val (.int .u8 ((0 : UInt8).toNat : Int))), .d (.val (.int .u8 ((0 : UInt8).toNat : Int))), .d (.val (.int .u8 ((0 : UInt8).toNat : Int))), .d (.val (.int .u8 ((0 : UInt8).toNat : Int))), .d (.val (.int .u8 ((0 : UInt8).toNat : Int))), .d (.val (.int .u8 ((0 : UInt8).toNat : Int))), .d (.val (.int .u8 ((0 : UInt8).toNat : Int))), .d (.val (.int .u8 ((0 : UInt8).toNat : Int))), .d (.val (.int .u8 ((0 : UInt8).toNat : Int))), .d (.val (.int .u8 ((0 : UInt8).toNat : Int))), .d (.val (.int .u8 ((0 : UInt8).toNat : Int))), .d (.val (.int .u8 ((0 : UInt8).toNat : Int))), .d (.val (.int .u8 ((0 : UInt8).toNat : Int))), .d (.val (.int .u8 ((0 : UInt8).toNat : Int))), .d (.val (.int .u8 ((0 : UInt8).toNat : Int))), .d (.val (.int .u8 ((0 : UInt8).toNat : Int))), .d (.val (.int .u8 ((0 : UInt8).toNat : Int))), .d (.val (.int .u8 ((0 : UInt8).toNat : Int))), .d (.val (.int .u8 ((0 : UInt8).toNat : Int))), .d (.val (.int .u8 ((0 : UInt8).toNat : Int)))]) rfl (by rw [TT.bldA_35]; simp [buildP, fillP, placeOf, partsQ, evP, PV.solid, PV.cellsP, Value.oneCell', spl, cellV, ofVal, List.all, putS_at, tab, unS, unT, asCond, unC]) (by rw [TT.bldA_35]; rfl) ⟨.d (.agg ((⟨[(1 : UInt8), (0 : UInt8), (0 : UInt8), (0 : UInt8), (0 : UInt8), (0 : UInt8), (0 : UInt8), (0 : UInt8), (0 : UInt8), (0 : UInt8), (0 : UInt8), (0 : UInt8), (0 : UInt8), (0 : UInt8), (0 : UInt8), (0 : UInt8), (0 : UInt8), (0 : UInt8), (0 : UInt8), (0 : UInt8), (0 : UInt8), (0 : UInt8), (0 : UInt8), (0 : UInt8), (0 : UInt8), (0 : UInt8), (0 : UInt8), (0 : UInt8), (0 : UInt8), (0 : UInt8), (0 : UInt8), (0 : UInt8)], rfl⟩ : (Arr 32 UInt8)).1.map byteD)), (Imp.toD rfl), ?_⟩)
  refine XK.as (some 16) rfl rfl (sf_bld (v := .agg ((cRow (⟨(⟨[(1 : UInt8), (0 : UInt8), (0 : UInt8), (0 : UInt8), (0 : UInt8), (0 : UInt8), (0 : UInt8), (0 : UInt8), (0 : UInt8), (0 : UInt8), (0 : UInt8), (0 : UInt8), (0 : UInt8), (0 : UInt8), (0 : UInt8), (0 : UInt8), (0 : UInt8), (0 : UInt8), (0 : UInt8), (0 : UInt8), (0 : UInt8), (0 : UInt8), (0 : UInt8), (0 : UInt8), (0 : UInt8), (0 : UInt8), (0 : UInt8), (0 : UInt8), (0 : UInt8), (0 : UInt8), (0 : UInt8), (0 : UInt8)], rfl⟩ : (Arr 32 UInt8)), 2, ([] : List UInt8)⟩ : Row)).map .d)) rfl TT.bldA_37 (bld_Row_0_1 (⟨[(1 : UInt8), (0 : UInt8), (0 : UInt8), (0 : UInt8), (0 : UInt8), (0 : UInt8), (0 : UInt8), (0 : UInt8), (0 : UInt8), (0 : UInt8), (0 : UInt8), (0 : UInt8), (0 : UInt8), (0 : UInt8), (0 : UInt8), (0 : UInt8), (0 : UInt8), (0 : UInt8), (0 : UInt8), (0 : UInt8), (0 : UInt8), (0 : UInt8), (0 : UInt8), (0 : UInt8), (0 : UInt8), (0 : UInt8), (0 : UInt8), (0 : UInt8), (0 : UInt8), (0 : UInt8), (0 : UInt8), (0 : UInt8)], rfl⟩ : (Arr 32 UInt8)) (2)) ⟨.d (.agg (cRow (⟨(⟨[(1 : UInt8), (0 : UInt8), (0 : UInt8), (0 : UInt8), (0 : UInt8), (0 : UInt8), (0 : UInt8), (0 : UInt8), (0 : UInt8), (0 : UInt8), (0 : UInt8), (0 : UInt8), (0 : UInt8), (0 : UInt8), (0 : UInt8), (0 : UInt8), (0 : UInt8), (0 : UInt8), (0 : UInt8), (0 : UInt8), (0 : UInt8), (0 : UInt8), (0 : UInt8), (0 : UInt8), (0 : UInt8), (0 : UInt8), (0 : UInt8), (0 : UInt8), (0 : UInt8), (0 : UInt8), (0 : UInt8), (0 : UInt8)], rfl⟩ : (Arr 32 UInt8)), 2, ([] : List UInt8)⟩ : Row))), imp_arr, ?_⟩)
  refine XK.st (some 1) rfl rfl (sf_alloc (l := ((cRow (⟨(Arr.rep 32 (0 : UInt8)), (0 : Int), ([] : (List UInt8))⟩ : Row)).map .d)) rfl TT.zeroA_37 rfl rfl ?_)
  refine XK.st (some 2) rfl rfl (sf_alloc (l := ((cRow (⟨(Arr.rep 32 (0 : UInt8)), (0 : Int), ([] : (List UInt8))⟩ : Row)).map .d)) rfl TT.zeroA_37 rfl rfl ?_)
  refine XK.st none rfl rfl (sf_stV (l' := ((cRow (⟨(⟨[(1 : UInt8), (0 : UInt8), (0 : UInt8), (0 : UInt8), (0 : UInt8), (0 : UInt8), (0 : UInt8), (0 : UInt8), (0 : UInt8), (0 : UInt8), (0 : UInt8), (0 : UInt8), (0 : UInt8), (0 : UInt8), (0 : UInt8), (0 : UInt8), (0 : UInt8), (0 : UInt8), (0 : UInt8), (0 : UInt8), (0 : UInt8), (0 : UInt8), (0 : UInt8), (0 : UInt8), (0 : UInt8), (0 : UInt8), (0 : UInt8), (0 : UInt8), (0 : UInt8), (0 : UInt8), (0 : UInt8), (0 : UInt8)], rfl⟩ : (Arr 32 UInt8)), 0, ([97] : List UInt8)⟩ : Row)).map .d)) rfl TT.tyA_37 rfl rfl rfl rfl rfl (len_dd (lay_Row.len _)) (le_dd (lay_Row.len _)) (spl_dd ((lay_Row.len _).trans (lay_Row.len _).symm)) ?_)
  refine XK.st none rfl rfl (sf_stV (l' := ((cRow (⟨(⟨[(1 : UInt8), (0 : UInt8), (0 : UInt8), (0 : UInt8), (0 : UInt8), (0 : UInt8), (0 : UInt8), (0 : UInt8), (0 : UInt8), (0 : UInt8), (0 : UInt8), (0 : UInt8), (0 : UInt8), (0 : UInt8), (0 : UInt8), (0 : UInt8), (0 : UInt8), (0 : UInt8), (0 : UInt8), (0 : UInt8), (0 : UInt8), (0 : UInt8), (0 : UInt8), (0 : UInt8), (0 : UInt8), (0 : UInt8), (0 : UInt8), (0 : UInt8), (0 : UInt8), (0 : UInt8), (0 : UInt8), (0 : UInt8)], rfl⟩ : (Arr 32 UInt8)), 2, ([] : List UInt8)⟩ : Row)).map .d)) rfl TT.tyA_37 rfl rfl rfl rfl rfl (len_dd (lay_Row.len _)) (le_dd (lay_Row.len _)) (spl_dd ((lay_Row.len _).trans (lay_Row.len _).symm)) ?_)
  refine XK.nil (nrm ?_)
  refine QW.seq ?_
  refine QW.region (Nat.zero_le _) (PW.regT (by kernel_rfl) ?_)
  refine XK.as (some 18) rfl rfl (sf_ldV (v := .agg ((cRow (⟨(⟨[(1 : UInt8), (0 : UInt8), (0 : UInt8), (0 : UInt8), (0 : UInt8), (0 : UInt8), (0 : UInt8), (0 : UInt8), (0 : UInt8), (0 : UInt8), (0 : UInt8), (0 : UInt8), (0 : UInt8), (0 : UInt8), (0 : UInt8), (0 : UInt8), (0 : UInt8), (0 : UInt8), (0 : UInt8), (0 : UInt8), (0 : UInt8), (0 : UInt8), (0 : UInt8), (0 : UInt8), (0 : UInt8), (0 : UInt8), (0 : UInt8), (0 : UInt8), (0 : UInt8), (0 : UInt8), (0 : UInt8), (0 : UInt8)], rfl⟩ : (Arr 32 UInt8)), 2, ([] : List UInt8)⟩ : Row)).map .d)) rfl TT.tyA_37 rfl rfl (ldv_dd (lay_Row.len _) (by decide)) ⟨.d (.agg (cRow (⟨(⟨[(1 : UInt8), (0 : UInt8), (0 : UInt8), (0 : UInt8), (0 : UInt8), (0 : UInt8), (0 : UInt8), (0 : UInt8), (0 : UInt8), (0 : UInt8), (0 : UInt8), (0 : UInt8), (0 : UInt8), (0 : UInt8), (0 : UInt8), (0 : UInt8), (0 : UInt8), (0 : UInt8), (0 : UInt8), (0 : UInt8), (0 : UInt8), (0 : UInt8), (0 : UInt8), (0 : UInt8), (0 : UInt8), (0 : UInt8), (0 : UInt8), (0 : UInt8), (0 : UInt8), (0 : UInt8), (0 : UInt8), (0 : UInt8)], rfl⟩ : (Arr 32 UInt8)), 2, ([] : List UInt8)⟩ : Row))), imp_arr, ?_⟩)
  refine XK.st (some 19) rfl rfl (sf_row (en := eRow) (l := ([(⟨(⟨[(1 : UInt8), (0 : UInt8), (0 : UInt8), (0 : UInt8), (0 : UInt8), (0 : UInt8), (0 : UInt8), (0 : UInt8), (0 : UInt8), (0 : UInt8), (0 : UInt8), (0 : UInt8), (0 : UInt8), (0 : UInt8), (0 : UInt8), (0 : UInt8), (0 : UInt8), (0 : UInt8), (0 : UInt8), (0 : UInt8), (0 : UInt8), (0 : UInt8), (0 : UInt8), (0 : UInt8), (0 : UInt8), (0 : UInt8), (0 : UInt8), (0 : UInt8), (0 : UInt8), (0 : UInt8), (0 : UInt8), (0 : UInt8)], rfl⟩ : (Arr 32 UInt8)), 2, ([] : List UInt8)⟩ : Row)] : List Row)) rfl TT.rowA_22 lay_Row (by first | rfl | (simp only [List.map_cons, List.map_nil, eRow_eq]; rfl)) rfl (by decide) (by simp [solids, partsP, evP, ofVal, PV.solid, putS_at, tab, unS, unT, unC, asCond, Value.oneCell']) ?_)
  refine XK.as (some 20) rfl rfl (sf_ldV (v := .agg ((cRow (⟨(⟨[(1 : UInt8), (0 : UInt8), (0 : UInt8), (0 : UInt8), (0 : UInt8), (0 : UInt8), (0 : UInt8), (0 : UInt8), (0 : UInt8), (0 : UInt8), (0 : UInt8), (0 : UInt8), (0 : UInt8), (0 : UInt8), (0 : UInt8), (0 : UInt8), (0 : UInt8), (0 : UInt8), (0 : UInt8), (0 : UInt8), (0 : UInt8), (0 : UInt8), (0 : UInt8), (0 : UInt8), (0 : UInt8), (0 : UInt8), (0 : UInt8), (0 : UInt8), (0 : UInt8), (0 : UInt8), (0 : UInt8), (0 : UInt8)], rfl⟩ : (Arr 32 UInt8)), 0, ([97] : List UInt8)⟩ : Row)).map .d)) rfl TT.tyA_37 rfl rfl (ldv_dd (lay_Row.len _) (by decide)) ⟨.d (.agg (cRow (⟨(⟨[(1 : UInt8), (0 : UInt8), (0 : UInt8), (0 : UInt8), (0 : UInt8), (0 : UInt8), (0 : UInt8), (0 : UInt8), (0 : UInt8), (0 : UInt8), (0 : UInt8), (0 : UInt8), (0 : UInt8), (0 : UInt8), (0 : UInt8), (0 : UInt8), (0 : UInt8), (0 : UInt8), (0 : UInt8), (0 : UInt8), (0 : UInt8), (0 : UInt8), (0 : UInt8), (0 : UInt8), (0 : UInt8), (0 : UInt8), (0 : UInt8), (0 : UInt8), (0 : UInt8), (0 : UInt8), (0 : UInt8), (0 : UInt8)], rfl⟩ : (Arr 32 UInt8)), 0, ([97] : List UInt8)⟩ : Row))), imp_arr, ?_⟩)
  obtain ⟨x_1, hx_2, h⟩ := bO h
  refine XK.st (some 21) rfl rfl (sf_call rfl rfl TT.enters_25 rfl (sim_page_Insert ([(⟨(⟨[(1 : UInt8), (0 : UInt8), (0 : UInt8), (0 : UInt8), (0 : UInt8), (0 : UInt8), (0 : UInt8), (0 : UInt8), (0 : UInt8), (0 : UInt8), (0 : UInt8), (0 : UInt8), (0 : UInt8), (0 : UInt8), (0 : UInt8), (0 : UInt8), (0 : UInt8), (0 : UInt8), (0 : UInt8), (0 : UInt8), (0 : UInt8), (0 : UInt8), (0 : UInt8), (0 : UInt8), (0 : UInt8), (0 : UInt8), (0 : UInt8), (0 : UInt8), (0 : UInt8), (0 : UInt8), (0 : UInt8), (0 : UInt8)], rfl⟩ : (Arr 32 UInt8)), 2, ([] : List UInt8)⟩ : Row)] : List Row) (⟨(⟨[(1 : UInt8), (0 : UInt8), (0 : UInt8), (0 : UInt8), (0 : UInt8), (0 : UInt8), (0 : UInt8), (0 : UInt8), (0 : UInt8), (0 : UInt8), (0 : UInt8), (0 : UInt8), (0 : UInt8), (0 : UInt8), (0 : UInt8), (0 : UInt8), (0 : UInt8), (0 : UInt8), (0 : UInt8), (0 : UInt8), (0 : UInt8), (0 : UInt8), (0 : UInt8), (0 : UInt8), (0 : UInt8), (0 : UInt8), (0 : UInt8), (0 : UInt8), (0 : UInt8), (0 : UInt8), (0 : UInt8), (0 : UInt8)], rfl⟩ : (Arr 32 UInt8)), 0, ([97] : List UInt8)⟩ : Row) _ hx_2) ?_)
  refine XK.st (some 17) rfl rfl (sf_move (v := .d (.tuple [.slice ((x_1.1).map eRow), .val (.bool (x_1.2))])) rfl rfl ?_)
  refine XK.st (some 22) rfl rfl (sf_extract rfl rfl rfl ?_)
  refine XK.st (some 23) rfl rfl (sf_extract rfl rfl rfl ?_)
  refine XK.st (some 3) rfl rfl (sf_assign (v := .d (.slice ((x_1.1).map eRow))) rfl rfl ?_)
  refine XK.st (some 4) rfl rfl (sf_assign (v := .d (.val (.bool (x_1.2)))) rfl rfl ?_)
  refine XK.nil (nrm ?_)
  refine QW.seq ?_
  refine QW.view (s' := ⟨tab [(1, .vptr 0 0), (2, .vptr 1 0), (3, .d (.slice ((x_1.1).map eRow))), (4, .d (.val (.bool (x_1.2))))], tabH [.var ((cRow (⟨(⟨[(1 : UInt8), (0 : UInt8), (0 : UInt8), (0 : UInt8), (0 : UInt8), (0 : UInt8), (0 : UInt8), (0 : UInt8), (0 : UInt8), (0 : UInt8), (0 : UInt8), (0 : UInt8), (0 : UInt8), (0 : UInt8), (0 : UInt8), (0 : UInt8), (0 : UInt8), (0 : UInt8), (0 : UInt8), (0 : UInt8), (0 : UInt8), (0 : UInt8), (0 : UInt8), (0 : UInt8), (0 : UInt8), (0 : UInt8), (0 : UInt8), (0 : UInt8), (0 : UInt8), (0 : UInt8), (0 : UInt8), (0 : UInt8)], rfl⟩ : (Arr 32 UInt8)), 0, ([97] : List UInt8)⟩ : Row)).map .d), .var ((cRow (⟨(⟨[(1 : UInt8), (0 : UInt8), (0 : UInt8), (0 : UInt8), (0 : UInt8), (0 : UInt8), (0 : UInt8), (0 : UInt8), (0 : UInt8), (0 : UInt8), (0 : UInt8), (0 : UInt8), (0 : UInt8), (0 : UInt8), (0 : UInt8), (0 : UInt8), (0 : UInt8), (0 : UInt8), (0 : UInt8), (0 : UInt8), (0 : UInt8), (0 : UInt8), (0 : UInt8), (0 : UInt8), (0 : UInt8), (0 : UInt8), (0 : UInt8), (0 : UInt8), (0 : UInt8), (0 : UInt8), (0 : UInt8), (0 : UInt8)], rfl⟩ : (Arr 32 UInt8)), 2, ([] : List UInt8)⟩ : Row)).map .d)], 2, []⟩) (View.mk 2 [0, 1] _ _ _ rfl rfl (by decide) (And.intro (Imp.of_eq rfl) (And.intro (Imp.of_eq rfl) (And.intro (Imp.of_eq rfl) (And.intro (Imp.of_eq rfl) trivial)))) (And.intro (by simp only [atH1, PV.res_d]; rfl) (And.intro (by simp only [atH1, PV.res_d]; rfl) trivial)) rfl (Nat.zero_le _) rfl) (Nat.zero_le _) ?_
  refine QW.region (Nat.zero_le _) (PW.regT (by kernel_rfl) ?_)
  refine XK.st (some 25) rfl rfl (sf_move (v := .d (.slice ((x_1.1).map eRow))) rfl rfl ?_)
  obtain ⟨x_3, hx_4, h⟩ := bO h
  refine XK.st (some 26) rfl rfl (sf_call rfl rfl TT.enters_17 rfl (sim_page_Put (x_1.1) _ hx_4) ?_)
  refine XK.st (some 24) rfl rfl (sf_move (v := .d (.tuple [.val (sV (x_3.1)), .val (.int .i64 (x_3.2))])) rfl rfl ?_)
  refine XK.st (some 27) rfl rfl (sf_extract rfl rfl rfl ?_)
  refine XK.st (some 28) rfl rfl (sf_extract rfl rfl rfl ?_)
  refine XK.st (some 5) rfl rfl (sf_assign (v := .d (.val (sV (x_3.1)))) rfl rfl ?_)
  refine XK.st (some 6) rfl rfl (sf_assign (v := .d (.val (.int .i64 (x_3.2)))) rfl rfl ?_)
  refine XK.nil (nrm ?_)
  refine QW.seq ?_
  refine QW.region (Nat.zero_le _) (PW.regT (by kernel_rfl) ?_)
  refine XK.st (some 30) rfl rfl (sf_move (v := .d (.val (sV (x_3.1)))) rfl rfl ?_)
  obtain ⟨x_5, hx_6, h⟩ := bO h
  refine XK.st (some 31) rfl rfl (sf_call rfl rfl TT.enters_22 rfl (sim_page_Get (x_3.1) _ hx_6) ?_)
  refine XK.st (some 29) rfl rfl (sf_move (v := .d (.tuple [.slice ((x_5.1).map eRow), .val (.int .i64 (x_5.2))])) rfl rfl ?_)
  refine XK.st (some 32) rfl rfl (sf_extract rfl rfl rfl ?_)
  refine XK.st (some 33) rfl rfl (sf_extract rfl rfl rfl ?_)
  refine XK.st (some 7) rfl rfl (sf_assign (v := .d (.slice ((x_5.1).map eRow))) rfl rfl ?_)
  refine XK.st (some 8) rfl rfl (sf_assign (v := .d (.val (.int .i64 (x_5.2)))) rfl rfl ?_)
  refine XK.nil (nrm ?_)
  refine QW.seq ?_
  refine QW.region (Nat.zero_le _) (PW.regT (by kernel_rfl) ?_)
  refine XK.st (some 35) rfl rfl (sf_move (v := .d (.slice ((x_1.1).map eRow))) rfl rfl ?_)
  obtain ⟨x_7, hx_8, h⟩ := bO h
  refine XK.st (some 36) rfl rfl (sf_call rfl rfl TT.enters_30 rfl (sim_page_Split (x_1.1) _ hx_8) ?_)
  refine XK.st (some 34) rfl rfl (sf_move (v := .d (.tuple [.slice ((x_7.1).map eRow), .slice ((x_7.2).map eRow)])) rfl rfl ?_)
  refine XK.st (some 37) rfl rfl (sf_extract rfl rfl rfl ?_)
  refine XK.st (some 38) rfl rfl (sf_extract rfl rfl rfl ?_)
  refine XK.st (some 9) rfl rfl (sf_assign (v := .d (.slice ((x_7.1).map eRow))) rfl rfl ?_)
  refine XK.st (some 10) rfl rfl (sf_assign (v := .d (.slice ((x_7.2).map eRow))) rfl rfl ?_)
  refine XK.nil (nrm ?_)
  refine QW.seq ?_
  refine QW.view (s' := ⟨tab [(1, .vptr 0 0), (2, .vptr 1 0), (3, .d (.slice ((x_1.1).map eRow))), (4, .d (.val (.bool (x_1.2)))), (5, .d (.val (sV (x_3.1)))), (6, .d (.val (.int .i64 (x_3.2)))), (7, .d (.slice ((x_5.1).map eRow))), (8, .d (.val (.int .i64 (x_5.2)))), (9, .d (.slice ((x_7.1).map eRow))), (10, .d (.slice ((x_7.2).map eRow)))], tabH [.var ((cRow (⟨(⟨[(1 : UInt8), (0 : UInt8), (0 : UInt8), (0 : UInt8), (0 : UInt8), (0 : UInt8), (0 : UInt8), (0 : UInt8), (0 : UInt8), (0 : UInt8), (0 : UInt8), (0 : UInt8), (0 : UInt8), (0 : UInt8), (0 : UInt8), (0 : UInt8), (0 : UInt8), (0 : UInt8), (0 : UInt8), (0 : UInt8), (0 : UInt8), (0 : UInt8), (0 : UInt8), (0 : UInt8), (0 : UInt8), (0 : UInt8), (0 : UInt8), (0 : UInt8), (0 : UInt8), (0 : UInt8), (0 : UInt8), (0 : UInt8)], rfl⟩ : (Arr 32 UInt8)), 0, ([97] : List UInt8)⟩ : Row)).map .d), .var ((cRow (⟨(⟨[(1 : UInt8), (0 : UInt8), (0 : UInt8), (0 : UInt8), (0 : UInt8), (0 : UInt8), (0 : UInt8), (0 : UInt8), (0 : UInt8), (0 : UInt8), (0 : UInt8), (0 : UInt8), (0 : UInt8), (0 : UInt8), (0 : UInt8), (0 : UInt8), (0 : UInt8), (0 : UInt8), (0 : UInt8), (0 : UInt8), (0 : UInt8), (0 : UInt8), (0 : UInt8), (0 : UInt8), (0 : UInt8), (0 : UInt8), (0 : UInt8), (0 : UInt8), (0 : UInt8), (0 : UInt8), (0 : UInt8), (0 : UInt8)], rfl⟩ : (Arr 32 UInt8)), 2, ([] : List UInt8)⟩ : Row)).map .d)], 2, []⟩) (View.mk 2 [0, 1] _ _ _ rfl rfl (by decide) (And.intro (Imp.of_eq rfl) (And.intro (Imp.of_eq rfl) (And.intro (Imp.of_eq rfl) (And.intro (Imp.of_eq rfl) (And.intro (Imp.of_eq rfl) (And.intro (Imp.of_eq rfl) (And.intro (Imp.of_eq rfl) (And.intro (Imp.of_eq rfl) (And.intro (Imp.of_eq rfl) (And.intro (Imp.of_eq rfl) trivial)))))))))) (And.intro (by simp only [atH1, PV.res_d]; rfl) (And.intro (by simp only [atH1, PV.res_d]; rfl) trivial)) rfl (Nat.zero_le _) rfl) (Nat.zero_le _) ?_
  refine QW.region (Nat.zero_le _) (PW.regT (by kernel_rfl) ?_)
  refine XK.st (some 40) rfl rfl (sf_move (v := .d (.slice ((x_1.1).map eRow))) rfl rfl ?_)
  refine XK.as (some 41) rfl rfl (sf_build (v := .agg [.d (.val (.int .u8 ((1 : UInt8).toNat : Int))), .d (.val (.int .u8 ((0 : UInt8).toNat : Int))), .d (.val (.int .u8 ((0 : UInt8).toNat : Int))), .d (.val (.int .u8 ((0 : UInt8).toNat : Int))), .d (.val (.int .u8 ((0 : UInt8).toNat : Int))), .d (.val (.int .u8 ((0 : UInt8).toNat : Int))), .d (.val (.int .u8 ((0 : UInt8).toNat : Int))), .d (.val (.int .u8 ((0 : UInt8).toNat : Int))), .d (.val (.int .u8 ((0 : UInt8).toNat : Int))), .d (.val (.int .u8 ((0 : UInt8).toNat : Int))), .d (.val (.int .u8 ((0 : UInt8).toNat : Int))), .d (.val (.int .u8 ((0 : UInt8).toNat : Int))), .d (.val (.int .u8 ((0 : UInt8).toNat : Int))), .d (.val (.int .u8 ((0 : UInt8).toNat : Int))), .d (.val (.int .u8 ((0 : UInt8).toNat : Int))), .d (.val (.int .u8 ((0 : UInt8).toNat : Int))), .d (.val (.int .u8 ((0 : UInt8).toNat : Int))), .d (.val (.int .u8 ((0 : UInt8).toNat : Int))), .d (.val (.int .u8 ((0 : UInt8).toNat : Int))), .d (.val (.int .u8 ((0 : UInt8).toNat : Int))), .d (.val (.int .u8 ((0 : UInt8).toNat : Int))), .d (.val (.int .u8 ((0 : UInt8).toNat : Int))), .d (.val (.int .u8 ((0 : UInt8).toNat : Int))), .d (.val (.int .u8 ((0 : UInt8).toNat : Int))), .d (.val (.int .u8 ((0 : UInt8).toNat : Int))), .d (.val (.int .u8 ((0 : UInt8).toNat : Int))), .d (.val (.int .u8 ((0 : UInt8).toNat : Int))), .d (.val (.int .u8 ((0 : UInt8).toNat : Int))), .d (.val (.int .u8 ((0 : UInt8).toNat : Int))), .d (.val (.int .u8 ((0 : UInt8).toNat : Int))), .d (.val (.int .u8 ((0 : UInt8).toNat : Int))), .d (.val (.int .u8 ((0 : UInt8).toNat : Int)))]) rfl (by rw [TT.bldA_35]; simp [buildP, fillP, placeOf, partsQ, evP, PV.solid, PV.cellsP, Value.oneCell', spl, cellV, ofVal, List.all, putS_at, tab, unS, unT, asCond, unC]) (by rw [TT.bldA_35]; rfl) ⟨.d (.agg ((⟨[(1 : UInt8), (0 : UInt8), (0 : UInt8), (0 : UInt8), (0 : UInt8), (0 : UInt8), (0 : UInt8), (0 : UInt8), (0 : UInt8), (0 : UInt8), (0 : UInt8), (0 : UInt8), (0 : UInt8), (0 : UInt8), (0 : UInt8), (0 : UInt8), (0 : UInt8), (0 : UInt8), (0 : UInt8), (0 : UInt8), (0 : UInt8), (0 : UInt8), (0 : UInt8), (0 : UInt8), (0 : UInt8), (0 : UInt8), (0 : UInt8), (0 : UInt8), (0 : UInt8), (0 : UInt8), (0 : UInt8), (0 : UInt8)], rfl⟩ : (Arr 32 UInt8)).1.map byteD)), (Imp.toD rfl), ?_⟩)
  obtain ⟨x_9, hx_10, h⟩ := bO h
  refine XK.st (some 42) rfl rfl (sf_call rfl rfl TT.enters_26 rfl (sim_page_Find (x_1.1) (⟨[(1 : UInt8), (0 : UInt8), (0 : UInt8), (0 : UInt8), (0 : UInt8), (0 : UInt8), (0 : UInt8), (0 : UInt8), (0 : UInt8), (0 : UInt8), (0 : UInt8), (0 : UInt8), (0 : UInt8), (0 : UInt8), (0 : UInt8), (0 : UInt8), (0 : UInt8), (0 : UInt8), (0 : UInt8), (0 : UInt8), (0 : UInt8), (0 : UInt8), (0 : UInt8), (0 : UInt8), (0 : UInt8), (0 : UInt8), (0 : UInt8), (0 : UInt8), (0 : UInt8), (0 : UInt8), (0 : UInt8), (0 : UInt8)], rfl⟩ : (Arr 32 UInt8)) (2) _ hx_10) ?_)
  refine XK.st (some 39) rfl rfl (sf_move (v := .d (.tuple [.val (.int .i64 (x_9.1)), .val (.bool (x_9.2))])) rfl rfl ?_)
  refine XK.st (some 43) rfl rfl (sf_extract rfl rfl rfl ?_)
  refine XK.st (some 44) rfl rfl (sf_extract rfl rfl rfl ?_)
  refine XK.st (some 11) rfl rfl (sf_assign (v := .d (.val (.int .i64 (x_9.1)))) rfl rfl ?_)
  refine XK.st (some 12) rfl rfl (sf_assign (v := .d (.val (.bool (x_9.2)))) rfl rfl ?_)
  refine XK.nil (nrm ?_)
  refine QW.seq ?_
  refine QW.region (Nat.zero_le _) (PW.regQ (id := 7) mixedX (M := _) rfl (by kernel_rfl) ?_)
  refine RQ.st (some 45) rfl rfl (sf_move (v := .d (.val (.bool (x_1.2)))) rfl rfl ⟨⟨rfl, rfl⟩, ?_⟩)
  refine RQ.st (some 46) rfl rfl (sf_move (v := .d (.val (.bool (x_1.2)))) rfl rfl ⟨⟨rfl, rfl⟩, ?_⟩)
  refine RQ.gd (v := .d (.slice ((x_1.1).map eRow))) (T := []) (some 47) rfl rfl (by repeat (first | exact trivial | refine And.intro (fun hg => by first | rfl | exact hg | exact (Bool.and_eq_true_iff.mp hg).1 | exact (Bool.and_eq_true_iff.mp (Bool.and_eq_true_iff.mp hg).1).1) ?_)) (fun hg => sf_move (v := .d (.slice ((x_1.1).map eRow))) rfl rfl ⟨⟨rfl, rfl, rfl⟩, rfl, Imp.refl⟩) (fun _ _ hi => nomatch hi) ?_
  refine RQ.gd (v := .d (.val (.int .i64 ((x_1.1).length : Int)))) (T := []) (some 48) rfl rfl (by repeat (first | exact trivial | refine And.intro (fun hg => by first | rfl | exact hg | exact (Bool.and_eq_true_iff.mp hg).1 | exact (Bool.and_eq_true_iff.mp (Bool.and_eq_true_iff.mp hg).1).1) ?_)) (fun hg => sf_lenL (en := eRow) (l := x_1.1) rfl TT.under_22 rfl ⟨⟨rfl, rfl, rfl⟩, rfl, Imp.refl⟩) (fun _ _ hi => nomatch hi) ?_
  refine RQ.gd (v := .d (.val (.bool (decide (((x_1.1).length : Int) = (2 : Int)))))) (T := []) (some 49) rfl rfl (by repeat (first | exact trivial | refine And.intro (fun hg => by first | rfl | exact hg | exact (Bool.and_eq_true_iff.mp hg).1 | exact (Bool.and_eq_true_iff.mp (Bool.and_eq_true_iff.mp hg).1).1) ?_)) (fun hg => sf_eq (a := ((x_1.1).length : Int)) (b := (2 : Int)) rfl rfl rfl ⟨⟨rfl, rfl, rfl⟩, rfl, Imp.refl⟩) (fun _ _ hi => nomatch hi) ?_
  refine RQ.st (some 50) rfl rfl (sf_pickA rfl rfl rfl rfl (fun hb => by rw [hb]; rfl) (fun _ => rfl) ⟨⟨rfl, rfl⟩, ?_⟩)
  refine RQ.st (some 51) rfl rfl (sf_move (v := .d (.val (.bool (x_1.2 && (decide (((x_1.1).length : Int) = (2 : Int))))))) rfl rfl ⟨⟨rfl, rfl⟩, ?_⟩)
  refine RQ.gd (v := .d (.slice ((x_1.1).map eRow))) (T := []) (some 52) rfl rfl (by repeat (first | exact trivial | refine And.intro (fun hg => by first | rfl | exact hg | exact (Bool.and_eq_true_iff.mp hg).1 | exact (Bool.and_eq_true_iff.mp (Bool.and_eq_true_iff.mp hg).1).1) ?_)) (fun hg => sf_move (v := .d (.slice ((x_1.1).map eRow))) rfl rfl ⟨⟨rfl, rfl, rfl⟩, rfl, Imp.refl⟩) (fun _ _ hi => nomatch hi) ?_
  obtain ⟨c_11, h⟩ := gO_get h
  refine RQ.gd (v := .d (.cptr (cRow (idx (x_1.1) (0 : Int))))) (T := []) (some 53) rfl rfl (by repeat (first | exact trivial | refine And.intro (fun hg => by first | rfl | exact hg | exact (Bool.and_eq_true_iff.mp hg).1 | exact (Bool.and_eq_true_iff.mp (Bool.and_eq_true_iff.mp hg).1).1) ?_)) (fun hg => sf_idxA (l := x_1.1) (i := (0 : Int)) rfl TT.slcA_22 lay_Row rfl rfl (c_11 hg) ⟨⟨rfl, rfl, rfl⟩, rfl, Imp.refl⟩) (fun _ _ hi => nomatch hi) ?_
  refine RQ.gd (v := .d (.agg (cRow (idx (x_1.1) (0 : Int))))) (T := []) (some 54) rfl rfl (by repeat (first | exact trivial | refine And.intro (fun hg => by first | rfl | exact hg | exact (Bool.and_eq_true_iff.mp hg).1 | exact (Bool.and_eq_true_iff.mp (Bool.and_eq_true_iff.mp hg).1).1) ?_)) (fun hg => sf_ldC (d := .agg (cRow (idx (x_1.1) (0 : Int)))) rfl TT.tyA_37 rfl (⟨by rw [lay_Row.len]; decide, congrArg D.agg (List.take_of_length_le (by rw [lay_Row.len]; decide))⟩) ⟨⟨rfl, rfl, rfl⟩, rfl, Imp.refl⟩) (fun _ _ hi => nomatch hi) ?_
  refine RQ.gd (v := .d (.agg (cRow (⟨(⟨[(1 : UInt8), (0 : UInt8), (0 : UInt8), (0 : UInt8), (0 : UInt8), (0 : UInt8), (0 : UInt8), (0 : UInt8), (0 : UInt8), (0 : UInt8), (0 : UInt8), (0 : UInt8), (0 : UInt8), (0 : UInt8), (0 : UInt8), (0 : UInt8), (0 : UInt8), (0 : UInt8), (0 : UInt8), (0 : UInt8), (0 : UInt8), (0 : UInt8), (0 : UInt8), (0 : UInt8), (0 : UInt8), (0 : UInt8), (0 : UInt8), (0 : UInt8), (0 : UInt8), (0 : UInt8), (0 : UInt8), (0 : UInt8)], rfl⟩ : (Arr 32 UInt8)), 0, ([97] : List UInt8)⟩ : Row)))) (T := [0]) (some 55) rfl rfl (by repeat (first | exact trivial | refine And.intro (fun hg => by first | rfl | exact hg | exact (Bool.and_eq_true_iff.mp hg).1 | exact (Bool.and_eq_true_iff.mp (Bool.and_eq_true_iff.mp hg).1).1) ?_)) (fun hg => sf_ldV (v := .agg ((cRow (⟨(⟨[(1 : UInt8), (0 : UInt8), (0 : UInt8), (0 : UInt8), (0 : UInt8), (0 : UInt8), (0 : UInt8), (0 : UInt8), (0 : UInt8), (0 : UInt8), (0 : UInt8), (0 : UInt8), (0 : UInt8), (0 : UInt8), (0 : UInt8), (0 : UInt8), (0 : UInt8), (0 : UInt8), (0 : UInt8), (0 : UInt8), (0 : UInt8), (0 : UInt8), (0 : UInt8), (0 : UInt8), (0 : UInt8), (0 : UInt8), (0 : UInt8), (0 : UInt8), (0 : UInt8), (0 : UInt8), (0 : UInt8), (0 : UInt8)], rfl⟩ : (Arr 32 UInt8)), 0, ([97] : List UInt8)⟩ : Row)).map .d)) rfl TT.tyA_37 rfl rfl (ldv_dd (lay_Row.len _) (by decide)) ⟨⟨rfl, rfl, rfl⟩, rfl, imp_arr⟩) (fun _ i hi => by simp only [List.mem_singleton] at hi; subst hi; decide) ?_
  refine RQ.gd (v := .d (.val (.bool (beqRow (idx (x_1.1) (0 : Int)) (⟨(⟨[(1 : UInt8), (0 : UInt8), (0 : UInt8), (0 : UInt8), (0 : UInt8), (0 : UInt8), (0 : UInt8), (0 : UInt8), (0 : UInt8), (0 : UInt8), (0 : UInt8), (0 : UInt8), (0 : UInt8), (0 : UInt8), (0 : UInt8), (0 : UInt8), (0 : UInt8), (0 : UInt8), (0 : UInt8), (0 : UInt8), (0 : UInt8), (0 : UInt8), (0 : UInt8), (0 : UInt8), (0 : UInt8), (0 : UInt8), (0 : UInt8), (0 : UInt8), (0 : UInt8), (0 : UInt8), (0 : UInt8), (0 : UInt8)], rfl⟩ : (Arr 32 UInt8)), 0, ([97] : List UInt8)⟩ : Row))))) (T := []) (some 56) rfl rfl (by repeat (first | exact trivial | refine And.intro (fun hg => by first | rfl | exact hg | exact (Bool.and_eq_true_iff.mp hg).1 | exact (Bool.and_eq_true_iff.mp (Bool.and_eq_true_iff.mp hg).1).1) ?_)) (fun hg => sf_aggeq rfl rfl rfl rfl (eqr_Row (idx (x_1.1) (0 : Int)) (⟨(⟨[(1 : UInt8), (0 : UInt8), (0 : UInt8), (0 : UInt8), (0 : UInt8), (0 : UInt8), (0 : UInt8), (0 : UInt8), (0 : UInt8), (0 : UInt8), (0 : UInt8), (0 : UInt8), (0 : UInt8), (0 : UInt8), (0 : UInt8), (0 : UInt8), (0 : UInt8), (0 : UInt8), (0 : UInt8), (0 : UInt8), (0 : UInt8), (0 : UInt8), (0 : UInt8), (0 : UInt8), (0 : UInt8), (0 : UInt8), (0 : UInt8), (0 : UInt8), (0 : UInt8), (0 : UInt8), (0 : UInt8), (0 : UInt8)], rfl⟩ : (Arr 32 UInt8)), 0, ([97] : List UInt8)⟩ : Row)) ⟨⟨rfl, rfl, rfl⟩, rfl, Imp.refl⟩) (fun _ _ hi => nomatch hi) ?_
  refine RQ.st (some 57) rfl rfl (sf_pickA rfl rfl rfl rfl (fun hb => by rw [hb]; rfl) (fun _ => rfl) ⟨⟨rfl, rfl⟩, ?_⟩)
  refine RQ.st (some 58) rfl rfl (sf_move (v := .d (.val (.bool ((x_1.2 && (decide (((x_1.1).length : Int) = (2 : Int)))) && (beqRow (idx (x_1.1) (0 : Int)) (⟨(⟨[(1 : UInt8), (0 : UInt8), (0 : UInt8), (0 : UInt8), (0 : UInt8), (0 : UInt8), (0 : UInt8), (0 : UInt8), (0 : UInt8), (0 : UInt8), (0 : UInt8), (0 : UInt8), (0 : UInt8), (0 : UInt8), (0 : UInt8), (0 : UInt8), (0 : UInt8), (0 : UInt8), (0 : UInt8), (0 : UInt8), (0 : UInt8), (0 : UInt8), (0 : UInt8), (0 : UInt8), (0 : UInt8), (0 : UInt8), (0 : UInt8), (0 : UInt8), (0 : UInt8), (0 : UInt8), (0 : UInt8), (0 : UInt8)], rfl⟩ : (Arr 32 UInt8)), 0, ([97] : List UInt8)⟩ : Row)))))) rfl rfl ⟨⟨rfl, rfl⟩, ?_⟩)
  refine RQ.gd (v := .d (.val (.int .i64 (x_3.2)))) (T := []) (some 59) rfl rfl (by repeat (first | exact trivial | refine And.intro (fun hg => by first | rfl | exact hg | exact (Bool.and_eq_true_iff.mp hg).1 | exact (Bool.and_eq_true_iff.mp (Bool.and_eq_true_iff.mp hg).1).1) ?_)) (fun hg => sf_move (v := .d (.val (.int .i64 (x_3.2)))) rfl rfl ⟨⟨rfl, rfl, rfl⟩, rfl, Imp.refl⟩) (fun _ _ hi => nomatch hi) ?_
  refine RQ.gd (v := .d (.val (.bool (decide ((x_3.2) = (0 : Int)))))) (T := []) (some 60) rfl rfl (by repeat (first | exact trivial | refine And.intro (fun hg => by first | rfl | exact hg | exact (Bool.and_eq_true_iff.mp hg).1 | exact (Bool.and_eq_true_iff.mp (Bool.and_eq_true_iff.mp hg).1).1) ?_)) (fun hg => sf_eq (a := (x_3.2)) (b := (0 : Int)) rfl rfl rfl ⟨⟨rfl, rfl, rfl⟩, rfl, Imp.refl⟩) (fun _ _ hi => nomatch hi) ?_
  refine RQ.st (some 61) rfl rfl (sf_pickA rfl rfl rfl rfl (fun hb => by rw [hb]; rfl) (fun _ => rfl) ⟨⟨rfl, rfl⟩, ?_⟩)
  refine RQ.st (some 62) rfl rfl (sf_move (v := .d (.val (.bool (((x_1.2 && (decide (((x_1.1).length : Int) = (2 : Int)))) && (beqRow (idx (x_1.1) (0 : Int)) (⟨(⟨[(1 : UInt8), (0 : UInt8), (0 : UInt8), (0 : UInt8), (0 : UInt8), (0 : UInt8), (0 : UInt8), (0 : UInt8), (0 : UInt8), (0 : UInt8), (0 : UInt8), (0 : UInt8), (0 : UInt8), (0 : UInt8), (0 : UInt8), (0 : UInt8), (0 : UInt8), (0 : UInt8), (0 : UInt8), (0 : UInt8), (0 : UInt8), (0 : UInt8), (0 : UInt8), (0 : UInt8), (0 : UInt8), (0 : UInt8), (0 : UInt8), (0 : UInt8), (0 : UInt8), (0 : UInt8), (0 : UInt8), (0 : UInt8)], rfl⟩ : (Arr 32 UInt8)), 0, ([97] : List UInt8)⟩ : Row))) && (decide ((x_3.2) = (0 : Int))))))) rfl rfl ⟨⟨rfl, rfl⟩, ?_⟩)
  refine RQ.gd (v := .d (.val (sV (x_3.1)))) (T := []) (some 63) rfl rfl (by repeat (first | exact trivial | refine And.intro (fun hg => by first | rfl | exact hg | exact (Bool.and_eq_true_iff.mp hg).1 | exact (Bool.and_eq_true_iff.mp (Bool.and_eq_true_iff.mp hg).1).1) ?_)) (fun hg => sf_move (v := .d (.val (sV (x_3.1)))) rfl rfl ⟨⟨rfl, rfl, rfl⟩, rfl, Imp.refl⟩) (fun _ _ hi => nomatch hi) ?_
  refine RQ.gd (v := .d (.val (.int .i64 ((x_3.1).length : Int)))) (T := []) (some 64) rfl rfl (by repeat (first | exact trivial | refine And.intro (fun hg => by first | rfl | exact hg | exact (Bool.and_eq_true_iff.mp hg).1 | exact (Bool.and_eq_true_iff.mp (Bool.and_eq_true_iff.mp hg).1).1) ?_)) (fun hg => sf_lenS (l := x_3.1) rfl TT.under_9 rfl ⟨⟨rfl, rfl, rfl⟩, rfl, Imp.refl⟩) (fun _ _ hi => nomatch hi) ?_
  refine RQ.gd (v := .d (.val (.bool (decide (((x_3.1).length : Int) = (82 : Int)))))) (T := []) (some 65) rfl rfl (by repeat (first | exact trivial | refine And.intro (fun hg => by first | rfl | exact hg | exact (Bool.and_eq_true_iff.mp hg).1 | exact (Bool.and_eq_true_iff.mp (Bool.and_eq_true_iff.mp hg).1).1) ?_)) (fun hg => sf_eq (a := ((x_3.1).length : Int)) (b := (82 : Int)) rfl rfl rfl ⟨⟨rfl, rfl, rfl⟩, rfl, Imp.refl⟩) (fun _ _ hi => nomatch hi) ?_
  refine RQ.st (some 66) rfl rfl (sf_pickA rfl rfl rfl rfl (fun hb => by rw [hb]; rfl) (fun _ => rfl) ⟨⟨rfl, rfl⟩, ?_⟩)
  refine RQ.st (some 67) rfl rfl (sf_move (v := .d (.val (.bool ((((x_1.2 && (decide (((x_1.1).length : Int) = (2 : Int)))) && (beqRow (idx (x_1.1) (0 : Int)) (⟨(⟨[(1 : UInt8), (0 : UInt8), (0 : UInt8), (0 : UInt8), (0 : UInt8), (0 : UInt8), (0 : UInt8), (0 : UInt8), (0 : UInt8), (0 : UInt8), (0 : UInt8), (0 : UInt8), (0 : UInt8), (0 : UInt8), (0 : UInt8), (0 : UInt8), (0 : UInt8), (0 : UInt8), (0 : UInt8), (0 : UInt8), (0 : UInt8), (0 : UInt8), (0 : UInt8), (0 : UInt8), (0 : UInt8), (0 : UInt8), (0 : UInt8), (0 : UInt8), (0 : UInt8), (0 : UInt8), (0 : UInt8), (0 : UInt8)], rfl⟩ : (Arr 32 UInt8)), 0, ([97] : List UInt8)⟩ : Row))) && (decide ((x_3.2) = (0 : Int)))) && (decide (((x_3.1).length : Int) = (82 : Int))))))) rfl rfl ⟨⟨rfl, rfl⟩, ?_⟩)
  refine RQ.gd (v := .d (.val (.int .i64 (x_5.2)))) (T := []) (some 68) rfl rfl (by repeat (first | exact trivial | refine And.intro (fun hg => by first | rfl | exact hg | exact (Bool.and_eq_true_iff.mp hg).1 | exact (Bool.and_eq_true_iff.mp (Bool.and_eq_true_iff.mp hg).1).1) ?_)) (fun hg => sf_move (v := .d (.val (.int .i64 (x_5.2)))) rfl rfl ⟨⟨rfl, rfl, rfl⟩, rfl, Imp.refl⟩) (fun _ _ hi => nomatch hi) ?_
  refine RQ.gd (v := .d (.val (.bool (decide ((x_5.2) = (0 : Int)))))) (T := []) (some 69) rfl rfl (by repeat (first | exact trivial | refine And.intro (fun hg => by first | rfl | exact hg | exact (Bool.and_eq_true_iff.mp hg).1 | exact (Bool.and_eq_true_iff.mp (Bool.and_eq_true_iff.mp hg).1).1) ?_)) (fun hg => sf_eq (a := (x_5.2)) (b := (0 : Int)) rfl rfl rfl ⟨⟨rfl, rfl, rfl⟩, rfl, Imp.refl⟩) (fun _ _ hi => nomatch hi) ?_
  refine RQ.st (some 70) rfl rfl (sf_pickA rfl rfl rfl rfl (fun hb => by rw [hb]; rfl) (fun _ => rfl) ⟨⟨rfl, rfl⟩, ?_⟩)
  refine RQ.st (some 71) rfl rfl (sf_move (v := .d (.val (.bool (((((x_1.2 && (decide (((x_1.1).length : Int) = (2 : Int)))) && (beqRow (idx (x_1.1) (0 : Int)) (⟨(⟨[(1 : UInt8), (0 : UInt8), (0 : UInt8), (0 : UInt8), (0 : UInt8), (0 : UInt8), (0 : UInt8), (0 : UInt8), (0 : UInt8), (0 : UInt8), (0 : UInt8), (0 : UInt8), (0 : UInt8), (0 : UInt8), (0 : UInt8), (0 : UInt8), (0 : UInt8), (0 : UInt8), (0 : UInt8), (0 : UInt8), (0 : UInt8), (0 : UInt8), (0 : UInt8), (0 : UInt8), (0 : UInt8), (0 : UInt8), (0 : UInt8), (0 : UInt8), (0 : UInt8), (0 : UInt8), (0 : UInt8), (0 : UInt8)], rfl⟩ : (Arr 32 UInt8)), 0, ([97] : List UInt8)⟩ : Row))) && (decide ((x_3.2) = (0 : Int)))) && (decide (((x_3.1).length : Int) = (82 : Int)))) && (decide ((x_5.2) = (0 : Int))))))) rfl rfl ⟨⟨rfl, rfl⟩, ?_⟩)
  refine RQ.gd (v := .d (.slice ((x_1.1).map eRow))) (T := []) (some 72) rfl rfl (by repeat (first | exact trivial | refine And.intro (fun hg => by first | rfl | exact hg | exact (Bool.and_eq_true_iff.mp hg).1 | exact (Bool.and_eq_true_iff.mp (Bool.and_eq_true_iff.mp hg).1).1) ?_)) (fun hg => sf_move (v := .d (.slice ((x_1.1).map eRow))) rfl rfl ⟨⟨rfl, rfl, rfl⟩, rfl, Imp.refl⟩) (fun _ _ hi => nomatch hi) ?_
  refine RQ.gd (v := .d (.slice ((x_5.1).map eRow))) (T := []) (some 73) rfl rfl (by repeat (first | exact trivial | refine And.intro (fun hg => by first | rfl | exact hg | exact (Bool.and_eq_true_iff.mp hg).1 | exact (Bool.and_eq_true_iff.mp (Bool.and_eq_true_iff.mp hg).1).1) ?_)) (fun hg => sf_move (v := .d (.slice ((x_5.1).map eRow))) rfl rfl ⟨⟨rfl, rfl, rfl⟩, rfl, Imp.refl⟩) (fun _ _ hi => nomatch hi) ?_
  obtain ⟨x_12, hx_13, h⟩ := bO h
  refine RQ.gd (v := .d (.val (.bool x_12))) (T := []) (some 74) rfl rfl (by repeat (first | exact trivial | refine And.intro (fun hg => by first | rfl | exact hg | exact (Bool.and_eq_true_iff.mp hg).1 | exact (Bool.and_eq_true_iff.mp (Bool.and_eq_true_iff.mp hg).1).1) ?_)) (fun hg => sf_call rfl rfl TT.enters_20 rfl (sim_page_Same (x_1.1) (x_5.1) _ (bT hx_13 hg)) ⟨⟨rfl, rfl, rfl⟩, rfl, Imp.refl⟩) (fun _ _ hi => nomatch hi) ?_
  refine RQ.st (some 75) rfl rfl (sf_pickA rfl rfl rfl rfl (fun hb => by rw [hb]; rfl) (fun _ => rfl) ⟨⟨rfl, rfl⟩, ?_⟩)
  refine RQ.st (some 76) rfl rfl (sf_move (v := .d (.val (.bool ((((((x_1.2 && (decide (((x_1.1).length : Int) = (2 : Int)))) && (beqRow (idx (x_1.1) (0 : Int)) (⟨(⟨[(1 : UInt8), (0 : UInt8), (0 : UInt8), (0 : UInt8), (0 : UInt8), (0 : UInt8), (0 : UInt8), (0 : UInt8), (0 : UInt8), (0 : UInt8), (0 : UInt8), (0 : UInt8), (0 : UInt8), (0 : UInt8), (0 : UInt8), (0 : UInt8), (0 : UInt8), (0 : UInt8), (0 : UInt8), (0 : UInt8), (0 : UInt8), (0 : UInt8), (0 : UInt8), (0 : UInt8), (0 : UInt8), (0 : UInt8), (0 : UInt8), (0 : UInt8), (0 : UInt8), (0 : UInt8), (0 : UInt8), (0 : UInt8)], rfl⟩ : (Arr 32 UInt8)), 0, ([97] : List UInt8)⟩ : Row))) && (decide ((x_3.2) = (0 : Int)))) && (decide (((x_3.1).length : Int) = (82 : Int)))) && (decide ((x_5.2) = (0 : Int)))) && x_12)))) rfl rfl ⟨⟨rfl, rfl⟩, ?_⟩)
  refine RQ.gd (v := .d (.slice ((x_7.1).map eRow))) (T := []) (some 77) rfl rfl (by repeat (first | exact trivial | refine And.intro (fun hg => by first | rfl | exact hg | exact (Bool.and_eq_true_iff.mp hg).1 | exact (Bool.and_eq_true_iff.mp (Bool.and_eq_true_iff.mp hg).1).1) ?_)) (fun hg => sf_move (v := .d (.slice ((x_7.1).map eRow))) rfl rfl ⟨⟨rfl, rfl, rfl⟩, rfl, Imp.refl⟩) (fun _ _ hi => nomatch hi) ?_
  refine RQ.gd (v := .d (.val (.int .i64 ((x_7.1).length : Int)))) (T := []) (some 78) rfl rfl (by repeat (first | exact trivial | refine And.intro (fun hg => by first | rfl | exact hg | exact (Bool.and_eq_true_iff.mp hg).1 | exact (Bool.and_eq_true_iff.mp (Bool.and_eq_true_iff.mp hg).1).1) ?_)) (fun hg => sf_lenL (en := eRow) (l := x_7.1) rfl TT.under_22 rfl ⟨⟨rfl, rfl, rfl⟩, rfl, Imp.refl⟩) (fun _ _ hi => nomatch hi) ?_
  refine RQ.gd (v := .d (.val (.bool (decide (((x_7.1).length : Int) = (1 : Int)))))) (T := []) (some 79) rfl rfl (by repeat (first | exact trivial | refine And.intro (fun hg => by first | rfl | exact hg | exact (Bool.and_eq_true_iff.mp hg).1 | exact (Bool.and_eq_true_iff.mp (Bool.and_eq_true_iff.mp hg).1).1) ?_)) (fun hg => sf_eq (a := ((x_7.1).length : Int)) (b := (1 : Int)) rfl rfl rfl ⟨⟨rfl, rfl, rfl⟩, rfl, Imp.refl⟩) (fun _ _ hi => nomatch hi) ?_
  refine RQ.st (some 80) rfl rfl (sf_pickA rfl rfl rfl rfl (fun hb => by rw [hb]; rfl) (fun _ => rfl) ⟨⟨rfl, rfl⟩, ?_⟩)
  refine RQ.st (some 81) rfl rfl (sf_move (v := .d (.val (.bool (((((((x_1.2 && (decide (((x_1.1).length : Int) = (2 : Int)))) && (beqRow (idx (x_1.1) (0 : Int)) (⟨(⟨[(1 : UInt8), (0 : UInt8), (0 : UInt8), (0 : UInt8), (0 : UInt8), (0 : UInt8), (0 : UInt8), (0 : UInt8), (0 : UInt8), (0 : UInt8), (0 : UInt8), (0 : UInt8), (0 : UInt8), (0 : UInt8), (0 : UInt8), (0 : UInt8), (0 : UInt8), (0 : UInt8), (0 : UInt8), (0 : UInt8), (0 : UInt8), (0 : UInt8), (0 : UInt8), (0 : UInt8), (0 : UInt8), (0 : UInt8), (0 : UInt8), (0 : UInt8), (0 : UInt8), (0 : UInt8), (0 : UInt8), (0 : UInt8)], rfl⟩ : (Arr 32 UInt8)), 0, ([97] : List UInt8)⟩ : Row))) && (decide ((x_3.2) = (0 : Int)))) && (decide (((x_3.1).length : Int) = (82 : Int)))) && (decide ((x_5.2) = (0 : Int)))) && x_12) && (decide (((x_7.1).length : Int) = (1 : Int))))))) rfl rfl ⟨⟨rfl, rfl⟩, ?_⟩)
  refine RQ.gd (v := .d (.slice ((x_7.2).map eRow))) (T := []) (some 82) rfl rfl (by repeat (first | exact trivial | refine And.intro (fun hg => by first | rfl | exact hg | exact (Bool.and_eq_true_iff.mp hg).1 | exact (Bool.and_eq_true_iff.mp (Bool.and_eq_true_iff.mp hg).1).1) ?_)) (fun hg => sf_move (v := .d (.slice ((x_7.2).map eRow))) rfl rfl ⟨⟨rfl, rfl, rfl⟩, rfl, Imp.refl⟩) (fun _ _ hi => nomatch hi) ?_
  refine RQ.gd (v := .d (.val (.int .i64 ((x_7.2).length : Int)))) (T := []) (some 83) rfl rfl (by repeat (first | exact trivial | refine And.intro (fun hg => by first | rfl | exact hg | exact (Bool.and_eq_true_iff.mp hg).1 | exact (Bool.and_eq_true_iff.mp (Bool.and_eq_true_iff.mp hg).1).1) ?_)) (fun hg => sf_lenL (en := eRow) (l := x_7.2) rfl TT.under_22 rfl ⟨⟨rfl, rfl, rfl⟩, rfl, Imp.refl⟩) (fun _ _ hi => nomatch hi) ?_
  refine RQ.gd (v := .d (.val (.bool (decide (((x_7.2).length : Int) = (1 : Int)))))) (T := []) (some 84) rfl rfl (by repeat (first | exact trivial | refine And.intro (fun hg => by first | rfl | exact hg | exact (Bool.and_eq_true_iff.mp hg).1 | exact (Bool.and_eq_true_iff.mp (Bool.and_eq_true_iff.mp hg).1).1) ?_)) (fun hg => sf_eq (a := ((x_7.2).length : Int)) (b := (1 : Int)) rfl rfl rfl ⟨⟨rfl, rfl, rfl⟩, rfl, Imp.refl⟩) (fun _ _ hi => nomatch hi) ?_
  refine RQ.st (some 85) rfl rfl (sf_pickA rfl rfl rfl rfl (fun hb => by rw [hb]; rfl) (fun _ => rfl) ⟨⟨rfl, rfl⟩, ?_⟩)
  refine RQ.st (some 86) rfl rfl (sf_move (v := .d (.val (.bool ((((((((x_1.2 && (decide (((x_1.1).length : Int) = (2 : Int)))) && (beqRow (idx (x_1.1) (0 : Int)) (⟨(⟨[(1 : UInt8), (0 : UInt8), (0 : UInt8), (0 : UInt8), (0 : UInt8), (0 : UInt8), (0 : UInt8), (0 : UInt8), (0 : UInt8), (0 : UInt8), (0 : UInt8), (0 : UInt8), (0 : UInt8), (0 : UInt8), (0 : UInt8), (0 : UInt8), (0 : UInt8), (0 : UInt8), (0 : UInt8), (0 : UInt8), (0 : UInt8), (0 : UInt8), (0 : UInt8), (0 : UInt8), (0 : UInt8), (0 : UInt8), (0 : UInt8), (0 : UInt8), (0 : UInt8), (0 : UInt8), (0 : UInt8), (0 : UInt8)], rfl⟩ : (Arr 32 UInt8)), 0, ([97] : List UInt8)⟩ : Row))) && (decide ((x_3.2) = (0 : Int)))) && (decide (((x_3.1).length : Int) = (82 : Int)))) && (decide ((x_5.2) = (0 : Int)))) && x_12) && (decide (((x_7.1).length : Int) = (1 : Int)))) && (decide (((x_7.2).length : Int) = (1 : Int))))))) rfl rfl ⟨⟨rfl, rfl⟩, ?_⟩)
  refine RQ.gd (v := .d (.val (.int .i64 (x_9.1)))) (T := []) (some 87) rfl rfl (by repeat (first | exact trivial | refine And.intro (fun hg => by first | rfl | exact hg | exact (Bool.and_eq_true_iff.mp hg).1 | exact (Bool.and_eq_true_iff.mp (Bool.and_eq_true_iff.mp hg).1).1) ?_)) (fun hg => sf_move (v := .d (.val (.int .i64 (x_9.1)))) rfl rfl ⟨⟨rfl, rfl, rfl⟩, rfl, Imp.refl⟩) (fun _ _ hi => nomatch hi) ?_
  refine RQ.gd (v := .d (.val (.bool (decide ((x_9.1) = (1 : Int)))))) (T := []) (some 88) rfl rfl (by repeat (first | exact trivial | refine And.intro (fun hg => by first | rfl | exact hg | exact (Bool.and_eq_true_iff.mp hg).1 | exact (Bool.and_eq_true_iff.mp (Bool.and_eq_true_iff.mp hg).1).1) ?_)) (fun hg => sf_eq (a := (x_9.1)) (b := (1 : Int)) rfl rfl rfl ⟨⟨rfl, rfl, rfl⟩, rfl, Imp.refl⟩) (fun _ _ hi => nomatch hi) ?_
  refine RQ.st (some 89) rfl rfl (sf_pickA rfl rfl rfl rfl (fun hb => by rw [hb]; rfl) (fun _ => rfl) ⟨⟨rfl, rfl⟩, ?_⟩)
  refine RQ.st (some 90) rfl rfl (sf_move (v := .d (.val (.bool (((((((((x_1.2 && (decide (((x_1.1).length : Int) = (2 : Int)))) && (beqRow (idx (x_1.1) (0 : Int)) (⟨(⟨[(1 : UInt8), (0 : UInt8), (0 : UInt8), (0 : UInt8), (0 : UInt8), (0 : UInt8), (0 : UInt8), (0 : UInt8), (0 : UInt8), (0 : UInt8), (0 : UInt8), (0 : UInt8), (0 : UInt8), (0 : UInt8), (0 : UInt8), (0 : UInt8), (0 : UInt8), (0 : UInt8), (0 : UInt8), (0 : UInt8), (0 : UInt8), (0 : UInt8), (0 : UInt8), (0 : UInt8), (0 : UInt8), (0 : UInt8), (0 : UInt8), (0 : UInt8), (0 : UInt8), (0 : UInt8), (0 : UInt8), (0 : UInt8)], rfl⟩ : (Arr 32 UInt8)), 0, ([97] : List UInt8)⟩ : Row))) && (decide ((x_3.2) = (0 : Int)))) && (decide (((x_3.1).length : Int) = (82 : Int)))) && (decide ((x_5.2) = (0 : Int)))) && x_12) && (decide (((x_7.1).length : Int) = (1 : Int)))) && (decide (((x_7.2).length : Int) = (1 : Int)))) && (decide ((x_9.1) = (1 : Int))))))) rfl rfl ⟨⟨rfl, rfl⟩, ?_⟩)
  refine RQ.gd (v := .d (.val (.bool (x_9.2)))) (T := []) (some 91) rfl rfl (by repeat (first | exact trivial | refine And.intro (fun hg => by first | rfl | exact hg | exact (Bool.and_eq_true_iff.mp hg).1 | exact (Bool.and_eq_true_iff.mp (Bool.and_eq_true_iff.mp hg).1).1) ?_)) (fun hg => sf_move (v := .d (.val (.bool (x_9.2)))) rfl rfl ⟨⟨rfl, rfl, rfl⟩, rfl, Imp.refl⟩) (fun _ _ hi => nomatch hi) ?_
  refine RQ.st (some 92) rfl rfl (sf_pickA rfl rfl rfl rfl (fun hb => by rw [hb]; rfl) (fun _ => rfl) ⟨⟨rfl, rfl⟩, ?_⟩)
  refine RQ.st (some 93) rfl rfl (sf_move (v := .d (.val (.bool ((((((((((x_1.2 && (decide (((x_1.1).length : Int) = (2 : Int)))) && (beqRow (idx (x_1.1) (0 : Int)) (⟨(⟨[(1 : UInt8), (0 : UInt8), (0 : UInt8), (0 : UInt8), (0 : UInt8), (0 : UInt8), (0 : UInt8), (0 : UInt8), (0 : UInt8), (0 : UInt8), (0 : UInt8), (0 : UInt8), (0 : UInt8), (0 : UInt8), (0 : UInt8), (0 : UInt8), (0 : UInt8), (0 : UInt8), (0 : UInt8), (0 : UInt8), (0 : UInt8), (0 : UInt8), (0 : UInt8), (0 : UInt8), (0 : UInt8), (0 : UInt8), (0 : UInt8), (0 : UInt8), (0 : UInt8), (0 : UInt8), (0 : UInt8), (0 : UInt8)], rfl⟩ : (Arr 32 UInt8)), 0, ([97] : List UInt8)⟩ : Row))) && (decide ((x_3.2) = (0 : Int)))) && (decide (((x_3.1).length : Int) = (82 : Int)))) && (decide ((x_5.2) = (0 : Int)))) && x_12) && (decide (((x_7.1).length : Int) = (1 : Int)))) && (decide (((x_7.2).length : Int) = (1 : Int)))) && (decide ((x_9.1) = (1 : Int)))) && x_9.2)))) rfl rfl ⟨⟨rfl, rfl⟩, ?_⟩)
  refine RQ.gd (v := .d (.slice ((x_1.1).map eRow))) (T := []) (some 94) rfl rfl (by repeat (first | exact trivial | refine And.intro (fun hg => by first | rfl | exact hg | exact (Bool.and_eq_true_iff.mp hg).1 | exact (Bool.and_eq_true_iff.mp (Bool.and_eq_true_iff.mp hg).1).1) ?_)) (fun hg => sf_move (v := .d (.slice ((x_1.1).map eRow))) rfl rfl ⟨⟨rfl, rfl, rfl⟩, rfl, Imp.refl⟩) (fun _ _ hi => nomatch hi) ?_
  obtain ⟨x_14, hx_15, h⟩ := bO h
  refine RQ.gd (v := .d (.slice (x_14.map eRow))) (T := []) (some 95) rfl rfl (by repeat (first | exact trivial | refine And.intro (fun hg => by first | rfl | exact hg | exact (Bool.and_eq_true_iff.mp hg).1 | exact (Bool.and_eq_true_iff.mp (Bool.and_eq_true_iff.mp hg).1).1) ?_)) (fun hg => sf_call rfl rfl TT.enters_29 rfl (sim_page_Remove (x_1.1) (0) _ (bT hx_15 hg)) ⟨⟨rfl, rfl, rfl⟩, rfl, Imp.refl⟩) (fun _ _ hi => nomatch hi) ?_
  refine RQ.gd (v := .d (.val (.int .i64 (x_14.length : Int)))) (T := []) (some 96) rfl rfl (by repeat (first | exact trivial | refine And.intro (fun hg => by first | rfl | exact hg | exact (Bool.and_eq_true_iff.mp hg).1 | exact (Bool.and_eq_true_iff.mp (Bool.and_eq_true_iff.mp hg).1).1) ?_)) (fun hg => sf_lenL (en := eRow) (l := x_14) rfl TT.under_22 rfl ⟨⟨rfl, rfl, rfl⟩, rfl, Imp.refl⟩) (fun _ _ hi => nomatch hi) ?_
  refine RQ.gd (v := .d (.val (.bool (decide ((x_14.length : Int) = (1 : Int)))))) (T := []) (some 97) rfl rfl (by repeat (first | exact trivial | refine And.intro (fun hg => by first | rfl | exact hg | exact (Bool.and_eq_true_iff.mp hg).1 | exact (Bool.and_eq_true_iff.mp (Bool.and_eq_true_iff.mp hg).1).1) ?_)) (fun hg => sf_eq (a := (x_14.length : Int)) (b := (1 : Int)) rfl rfl rfl ⟨⟨rfl, rfl, rfl⟩, rfl, Imp.refl⟩) (fun _ _ hi => nomatch hi) ?_
  refine RQ.st (some 98) rfl rfl (sf_pickA rfl rfl rfl rfl (fun hb => by rw [hb]; rfl) (fun _ => rfl) ⟨⟨rfl, rfl⟩, ?_⟩)
  refine RQ.st (some 99) rfl rfl (sf_move (v := .d (.val (.bool (((((((((((x_1.2 && (decide (((x_1.1).length : Int) = (2 : Int)))) && (beqRow (idx (x_1.1) (0 : Int)) (⟨(⟨[(1 : UInt8), (0 : UInt8), (0 : UInt8), (0 : UInt8), (0 : UInt8), (0 : UInt8), (0 : UInt8), (0 : UInt8), (0 : UInt8), (0 : UInt8), (0 : UInt8), (0 : UInt8), (0 : UInt8), (0 : UInt8), (0 : UInt8), (0 : UInt8), (0 : UInt8), (0 : UInt8), (0 : UInt8), (0 : UInt8), (0 : UInt8), (0 : UInt8), (0 : UInt8), (0 : UInt8), (0 : UInt8), (0 : UInt8), (0 : UInt8), (0 : UInt8), (0 : UInt8), (0 : UInt8), (0 : UInt8), (0 : UInt8)], rfl⟩ : (Arr 32 UInt8)), 0, ([97] : List UInt8)⟩ : Row))) && (decide ((x_3.2) = (0 : Int)))) && (decide (((x_3.1).length : Int) = (82 : Int)))) && (decide ((x_5.2) = (0 : Int)))) && x_12) && (decide (((x_7.1).length : Int) = (1 : Int)))) && (decide (((x_7.2).length : Int) = (1 : Int)))) && (decide ((x_9.1) = (1 : Int)))) && x_9.2) && (decide ((x_14.length : Int) = (1 : Int))))))) rfl rfl ⟨⟨rfl, rfl⟩, ?_⟩)
  refine RQ.gd (v := .d (.agg (cRow (⟨(⟨[(1 : UInt8), (0 : UInt8), (0 : UInt8), (0 : UInt8), (0 : UInt8), (0 : UInt8), (0 : UInt8), (0 : UInt8), (0 : UInt8), (0 : UInt8), (0 : UInt8), (0 : UInt8), (0 : UInt8), (0 : UInt8), (0 : UInt8), (0 : UInt8), (0 : UInt8), (0 : UInt8), (0 : UInt8), (0 : UInt8), (0 : UInt8), (0 : UInt8), (0 : UInt8), (0 : UInt8), (0 : UInt8), (0 : UInt8), (0 : UInt8), (0 : UInt8), (0 : UInt8), (0 : UInt8), (0 : UInt8), (0 : UInt8)], rfl⟩ : (Arr 32 UInt8)), 0, ([97] : List UInt8)⟩ : Row)))) (T := [0]) (some 100) rfl rfl (by repeat (first | exact trivial | refine And.intro (fun hg => by first | rfl | exact hg | exact (Bool.and_eq_true_iff.mp hg).1 | exact (Bool.and_eq_true_iff.mp (Bool.and_eq_true_iff.mp hg).1).1) ?_)) (fun hg => sf_ldV (v := .agg ((cRow (⟨(⟨[(1 : UInt8), (0 : UInt8), (0 : UInt8), (0 : UInt8), (0 : UInt8), (0 : UInt8), (0 : UInt8), (0 : UInt8), (0 : UInt8), (0 : UInt8), (0 : UInt8), (0 : UInt8), (0 : UInt8), (0 : UInt8), (0 : UInt8), (0 : UInt8), (0 : UInt8), (0 : UInt8), (0 : UInt8), (0 : UInt8), (0 : UInt8), (0 : UInt8), (0 : UInt8), (0 : UInt8), (0 : UInt8), (0 : UInt8), (0 : UInt8), (0 : UInt8), (0 : UInt8), (0 : UInt8), (0 : UInt8), (0 : UInt8)], rfl⟩ : (Arr 32 UInt8)), 0, ([97] : List UInt8)⟩ : Row)).map .d)) rfl TT.tyA_37 rfl rfl (ldv_dd (lay_Row.len _) (by decide)) ⟨⟨rfl, rfl, rfl⟩, rfl, imp_arr⟩) (fun _ i hi => by simp only [List.mem_singleton] at hi; subst hi; decide) ?_
  refine RQ.gd (v := .d (.agg (cRow (⟨(⟨[(1 : UInt8), (0 : UInt8), (0 : UInt8), (0 : UInt8), (0 : UInt8), (0 : UInt8), (0 : UInt8), (0 : UInt8), (0 : UInt8), (0 : UInt8), (0 : UInt8), (0 : UInt8), (0 : UInt8), (0 : UInt8), (0 : UInt8), (0 : UInt8), (0 : UInt8), (0 : UInt8), (0 : UInt8), (0 : UInt8), (0 : UInt8), (0 : UInt8), (0 : UInt8), (0 : UInt8), (0 : UInt8), (0 : UInt8), (0 : UInt8), (0 : UInt8), (0 : UInt8), (0 : UInt8), (0 : UInt8), (0 : UInt8)], rfl⟩ : (Arr 32 UInt8)), 2, ([] : List UInt8)⟩ : Row)))) (T := [1]) (some 101) rfl rfl (by repeat (first | exact trivial | refine And.intro (fun hg => by first | rfl | exact hg | exact (Bool.and_eq_true_iff.mp hg).1 | exact (Bool.and_eq_true_iff.mp (Bool.and_eq_true_iff.mp hg).1).1) ?_)) (fun hg => sf_ldV (v := .agg ((cRow (⟨(⟨[(1 : UInt8), (0 : UInt8), (0 : UInt8), (0 : UInt8), (0 : UInt8), (0 : UInt8), (0 : UInt8), (0 : UInt8), (0 : UInt8), (0 : UInt8), (0 : UInt8), (0 : UInt8), (0 : UInt8), (0 : UInt8), (0 : UInt8), (0 : UInt8), (0 : UInt8), (0 : UInt8), (0 : UInt8), (0 : UInt8), (0 : UInt8), (0 : UInt8), (0 : UInt8), (0 : UInt8), (0 : UInt8), (0 : UInt8), (0 : UInt8), (0 : UInt8), (0 : UInt8), (0 : UInt8), (0 : UInt8), (0 : UInt8)], rfl⟩ : (Arr 32 UInt8)), 2, ([] : List UInt8)⟩ : Row)).map .d)) rfl TT.tyA_37 rfl rfl (ldv_dd (lay_Row.len _) (by decide)) ⟨⟨rfl, rfl, rfl⟩, rfl, imp_arr⟩) (fun _ i hi => by simp only [List.mem_singleton] at hi; subst hi; decide) ?_
  obtain ⟨x_16, hx_17, h⟩ := bO h
  refine RQ.gd (v := .d (.val (.bool x_16))) (T := []) (some 102) rfl rfl (by repeat (first | exact trivial | refine And.intro (fun hg => by first | rfl | exact hg | exact (Bool.and_eq_true_iff.mp hg).1 | exact (Bool.and_eq_true_iff.mp (Bool.and_eq_true_iff.mp hg).1).1) ?_)) (fun hg => sf_call rfl rfl TT.enters_31 rfl (sim_page_Less (⟨(⟨[(1 : UInt8), (0 : UInt8), (0 : UInt8), (0 : UInt8), (0 : UInt8), (0 : UInt8), (0 : UInt8), (0 : UInt8), (0 : UInt8), (0 : UInt8), (0 : UInt8), (0 : UInt8), (0 : UInt8), (0 : UInt8), (0 : UInt8), (0 : UInt8), (0 : UInt8), (0 : UInt8), (0 : UInt8), (0 : UInt8), (0 : UInt8), (0 : UInt8), (0 : UInt8), (0 : UInt8), (0 : UInt8), (0 : UInt8), (0 : UInt8), (0 : UInt8), (0 : UInt8), (0 : UInt8), (0 : UInt8), (0 : UInt8)], rfl⟩ : (Arr 32 UInt8)), 0, ([97] : List UInt8)⟩ : Row) (⟨(⟨[(1 : UInt8), (0 : UInt8), (0 : UInt8), (0 : UInt8), (0 : UInt8), (0 : UInt8), (0 : UInt8), (0 : UInt8), (0 : UInt8), (0 : UInt8), (0 : UInt8), (0 : UInt8), (0 : UInt8), (0 : UInt8), (0 : UInt8), (0 : UInt8), (0 : UInt8), (0 : UInt8), (0 : UInt8), (0 : UInt8), (0 : UInt8), (0 : UInt8), (0 : UInt8), (0 : UInt8), (0 : UInt8), (0 : UInt8), (0 : UInt8), (0 : UInt8), (0 : UInt8), (0 : UInt8), (0 : UInt8), (0 : UInt8)], rfl⟩ : (Arr 32 UInt8)), 2, ([] : List UInt8)⟩ : Row) _ (bT hx_17 hg)) ⟨⟨rfl, rfl, rfl⟩, rfl, Imp.refl⟩) (fun _ _ hi => nomatch hi) ?_
  refine RQ.st (some 103) rfl rfl (sf_pickA rfl rfl rfl rfl (fun hb => by rw [hb]; rfl) (fun _ => rfl) ⟨⟨rfl, rfl⟩, ?_⟩)
  refine RQ.st (some 0) rfl rfl (sf_assign (v := .d (.val (.bool ((((((((((((x_1.2 && (decide (((x_1.1).length : Int) = (2 : Int)))) && (beqRow (idx (x_1.1) (0 : Int)) (⟨(⟨[(1 : UInt8), (0 : UInt8), (0 : UInt8), (0 : UInt8), (0 : UInt8), (0 : UInt8), (0 : UInt8), (0 : UInt8), (0 : UInt8), (0 : UInt8), (0 : UInt8), (0 : UInt8), (0 : UInt8), (0 : UInt8), (0 : UInt8), (0 : UInt8), (0 : UInt8), (0 : UInt8), (0 : UInt8), (0 : UInt8), (0 : UInt8), (0 : UInt8), (0 : UInt8), (0 : UInt8), (0 : UInt8), (0 : UInt8), (0 : UInt8), (0 : UInt8), (0 : UInt8), (0 : UInt8), (0 : UInt8), (0 : UInt8)], rfl⟩ : (Arr 32 UInt8)), 0, ([97] : List UInt8)⟩ : Row))) && (decide ((x_3.2) = (0 : Int)))) && (decide (((x_3.1).length : Int) = (82 : Int)))) && (decide ((x_5.2) = (0 : Int)))) && x_12) && (decide (((x_7.1).length : Int) = (1 : Int)))) && (decide (((x_7.2).length : Int) = (1 : Int)))) && (decide ((x_9.1) = (1 : Int)))) && x_9.2) && (decide ((x_14.length : Int) = (1 : Int)))) && x_16)))) rfl rfl ⟨⟨rfl, rfl⟩, ?_⟩)
  refine RQ.nil (nrm ?_)
  refine QW.ret (Nat.zero_le _) ?_
  obtain rfl := sO h
  exact Ends.one (.inr rfl) rfl (ResIs.tmp rfl) rfl rfl

noncomputable def g_law47_PagePuts (l0 : (List Row)) (m1 : (List Row)) : Option Bool :=
    ((g_law47_light l0).bind fun (x_1 : Bool) =>
    ((bif ((!x_1) == false) then g_law47_light m1 else some default).bind fun (x_3 : Bool) =>
    (bif ((!x_1) || (!x_3)) then
    ((g_law47_awake ).bind fun (x_6 : Bool) =>
    some x_6)
    else
    ((g_page_Put l0).bind fun (x_8 : ((List UInt8) × Int)) =>
    ((g_ref47_May l0).bind fun (x_10 : Bool) =>
    ((g_page_Check l0).bind fun (x_12 : Int) =>
    ((bif ((!((decide (x_12 = (0 : Int))) == x_10)) == false) then g_page_Same l0 m1 else some default).bind fun (x_14 : Bool) =>
    ((bif ((!((decide (x_12 = (0 : Int))) == x_10)) == false) then g_ref47_Same l0 m1 else some default).bind fun (x_16 : Bool) =>
    (bif ((!((decide (x_12 = (0 : Int))) == x_10)) || (!(x_14 == x_16))) then
    some false
    else
    (bif (!x_10) then
    ((g_law47_awake ).bind fun (x_20 : Bool) =>
    some ((x_20 && (x_8.1 == ([] : List UInt8))) && (decide ((x_8.2) = (2 : Int)))))
    else
    ((g_page_Get (x_8.1)).bind fun (x_22 : ((List Row) × Int)) =>
    ((g_law47_awake ).bind fun (x_24 : Bool) =>
    ((bif ((x_24 && (decide ((x_8.2) = (0 : Int)))) == true) then g_ref47_Put l0 else some default).bind fun (x_26 : (List UInt8)) =>
    ((bif ((((x_24 && (decide ((x_8.2) = (0 : Int)))) && (x_8.1 == x_26)) && (decide ((x_22.2) = (0 : Int)))) == true) then g_ref47_Same (x_22.1) l0 else some default).bind fun (x_28 : Bool) =>
    some ((((x_24 && (decide ((x_8.2) = (0 : Int)))) && (x_8.1 == x_26)) && (decide ((x_22.2) = (0 : Int)))) && x_28)))))))))))))))

set_option maxRecDepth 20000 in
set_option maxHeartbeats 4000000 in
theorem sim_law47_PagePuts (l0 : (List Row)) (m1 : (List Row)) (r : Bool) (h : g_law47_PagePuts l0 m1 = some r) : Fun Try.prog 3 [.slice (l0.map eRow), .slice (m1.map eRow)] (.val (.bool r)) := by
  refine Fun.of_bodyQ Try.func3 rfl (by simp [Try.ntmps3]) ?_
  rw [Try.ntmps3, TT.res_3]
  refine QW.view (s' := ⟨tab [(0, .d (.slice (l0.map eRow))), (1, .d (.slice (m1.map eRow)))], tabH [], 0, []⟩) (View.init (by rfl)) (Nat.zero_le _) ?_
  unfold g_law47_PagePuts at h
  refine QW.seq ?_
  refine QW.region (Nat.zero_le _) (PW.regT (by kernel_rfl) ?_)
  refine XK.st (some 4) rfl rfl (sf_assign (v := .d (.val (.bool false))) rfl rfl ?_)
  refine XK.nil (nrm ?_)
  refine QW.seq ?_
  refine QW.seq ?_
  refine QW.region (Nat.zero_le _) (PW.regT (by kernel_rfl) ?_)
  refine XK.st (some 10) rfl rfl (sf_move (v := .d (.slice (l0.map eRow))) rfl rfl ?_)
  obtain ⟨x_1, hx_2, h⟩ := bO h
  refine XK.st (some 11) rfl rfl (sf_call rfl rfl TT.enters_15 rfl (sim_law47_light l0 _ hx_2) ?_)
  refine XK.st (some 12) rfl rfl (sf_not rfl rfl ?_)
  refine XK.st (some 13) rfl rfl (sf_move (v := .d (.val (.bool (!x_1)))) rfl rfl ?_)
  refine XK.gd (v := .d (.slice (m1.map eRow))) (T := []) (some 14) rfl rfl (by repeat (first | exact trivial | refine And.intro (fun hg => by first | rfl | exact hg | exact (Bool.and_eq_true_iff.mp hg).1 | exact (Bool.and_eq_true_iff.mp (Bool.and_eq_true_iff.mp hg).1).1) ?_)) (fun hg => sf_move (v := .d (.slice (m1.map eRow))) rfl rfl ⟨⟨rfl, rfl, rfl⟩, rfl, Imp.refl⟩) (fun _ _ hi => nomatch hi) ?_
  obtain ⟨x_3, hx_4, h⟩ := bO h
  refine XK.gd (v := .d (.val (.bool x_3))) (T := []) (some 15) rfl rfl (by repeat (first | exact trivial | refine And.intro (fun hg => by first | rfl | exact hg | exact (Bool.and_eq_true_iff.mp hg).1 | exact (Bool.and_eq_true_iff.mp (Bool.and_eq_true_iff.mp hg).1).1) ?_)) (fun hg => sf_call rfl rfl TT.enters_15 rfl (sim_law47_light m1 _ (bT hx_4 hg)) ⟨⟨rfl, rfl, rfl⟩, rfl, Imp.refl⟩) (fun _ _ hi => nomatch hi) ?_
  refine XK.gd (v := .d (.val (.bool (!x_3)))) (T := []) (some 16) rfl rfl (by repeat (first | exact trivial | refine And.intro (fun hg => by first | rfl | exact hg | exact (Bool.and_eq_true_iff.mp hg).1 | exact (Bool.and_eq_true_iff.mp (Bool.and_eq_true_iff.mp hg).1).1) ?_)) (fun hg => sf_not rfl rfl ⟨⟨rfl, rfl, rfl⟩, rfl, Imp.refl⟩) (fun _ _ hi => nomatch hi) ?_
  refine XK.st (some 17) rfl rfl (sf_pickO rfl rfl rfl rfl (fun _ => rfl) (fun hb => by rw [hb]; rfl) ?_)
  refine XK.nil (nrm ?_)
  refine QW.cond (t := ((!x_1) || (!x_3))) rfl (Nat.zero_le _) (fun hb_5 => ?_) (fun hb_5 => ?_)
  · replace h := bT h hb_5
    refine QW.seq ?_
    refine QW.region (Nat.zero_le _) (PW.regT (by kernel_rfl) ?_)
    obtain ⟨x_6, hx_7, h⟩ := bO h
    refine XK.st (some 18) rfl rfl (sf_call rfl rfl TT.enters_16 rfl (sim_law47_awake  _ hx_7) ?_)
    refine XK.st (some 4) rfl rfl (sf_assign (v := .d (.val (.bool x_6))) rfl rfl ?_)
    refine XK.nil (nrm ?_)
    refine QW.ret (Nat.zero_le _) (thR ?_)
    obtain rfl := sO h
    exact Ends.one (.inr rfl) rfl (ResIs.tmp rfl) rfl rfl
  · replace h := bF h hb_5
    refine QW.skip (Nat.zero_le _) (nrm ?_)
    refine QW.seq ?_
    refine QW.region (Nat.zero_le _) (PW.regT (by kernel_rfl) ?_)
    refine XK.st (some 20) rfl rfl (sf_move (v := .d (.slice (l0.map eRow))) rfl rfl ?_)
    obtain ⟨x_8, hx_9, h⟩ := bO h
    refine XK.st (some 21) rfl rfl (sf_call rfl rfl TT.enters_17 rfl (sim_page_Put l0 _ hx_9) ?_)
    refine XK.st (some 19) rfl rfl (sf_move (v := .d (.tuple [.val (sV (x_8.1)), .val (.int .i64 (x_8.2))])) rfl rfl ?_)
    refine XK.st (some 22) rfl rfl (sf_extract rfl rfl rfl ?_)
    refine XK.st (some 23) rfl rfl (sf_extract rfl rfl rfl ?_)
    refine XK.st (some 5) rfl rfl (sf_assign (v := .d (.val (sV (x_8.1)))) rfl rfl ?_)
    refine XK.st (some 6) rfl rfl (sf_assign (v := .d (.val (.int .i64 (x_8.2)))) rfl rfl ?_)
    refine XK.nil (nrm ?_)
    refine QW.seq ?_
    refine QW.region (Nat.zero_le _) (PW.regT (by kernel_rfl) ?_)
    refine XK.st (some 24) rfl rfl (sf_move (v := .d (.slice (l0.map eRow))) rfl rfl ?_)
    obtain ⟨x_10, hx_11, h⟩ := bO h
    refine XK.st (some 25) rfl rfl (sf_call rfl rfl TT.enters_18 rfl (sim_ref47_May l0 _ hx_11) ?_)
    refine XK.st (some 7) rfl rfl (sf_assign (v := .d (.val (.bool x_10))) rfl rfl ?_)
    refine XK.nil (nrm ?_)
    refine QW.seq ?_
    refine QW.seq ?_
    refine QW.region (Nat.zero_le _) (PW.regT (by kernel_rfl) ?_)
    refine XK.st (some 26) rfl rfl (sf_move (v := .d (.slice (l0.map eRow))) rfl rfl ?_)
    obtain ⟨x_12, hx_13, h⟩ := bO h
    refine XK.st (some 27) rfl rfl (sf_call rfl rfl TT.enters_19 rfl (sim_page_Check l0 _ hx_13) ?_)
    refine XK.st (some 28) rfl rfl (sf_eq (a := x_12) (b := (0 : Int)) rfl rfl rfl ?_)
    refine XK.st (some 29) rfl rfl (sf_move (v := .d (.val (.bool x_10))) rfl rfl ?_)
    refine XK.st (some 30) rfl rfl (sf_bne (a := (decide (x_12 = (0 : Int)))) (b := x_10) rfl TT.under_4 rfl rfl ?_)
    refine XK.st (some 31) rfl rfl (sf_move (v := .d (.val (.bool (!((decide (x_12 = (0 : Int))) == x_10))))) rfl rfl ?_)
    refine XK.gd (v := .d (.slice (l0.map eRow))) (T := []) (some 32) rfl rfl (by repeat (first | exact trivial | refine And.intro (fun hg => by first | rfl | exact hg | exact (Bool.and_eq_true_iff.mp hg).1 | exact (Bool.and_eq_true_iff.mp (Bool.and_eq_true_iff.mp hg).1).1) ?_)) (fun hg => sf_move (v := .d (.slice (l0.map eRow))) rfl rfl ⟨⟨rfl, rfl, rfl⟩, rfl, Imp.refl⟩) (fun _ _ hi => nomatch hi) ?_
    refine XK.gd (v := .d (.slice (m1.map eRow))) (T := []) (some 33) rfl rfl (by repeat (first | exact trivial | refine And.intro (fun hg => by first | rfl | exact hg | exact (Bool.and_eq_true_iff.mp hg).1 | exact (Bool.and_eq_true_iff.mp (Bool.and_eq_true_iff.mp hg).1).1) ?_)) (fun hg => sf_move (v := .d (.slice (m1.map eRow))) rfl rfl ⟨⟨rfl, rfl, rfl⟩, rfl, Imp.refl⟩) (fun _ _ hi => nomatch hi) ?_
    obtain ⟨x_14, hx_15, h⟩ := bO h
    refine XK.gd (v := .d (.val (.bool x_14))) (T := []) (some 34) rfl rfl (by repeat (first | exact trivial | refine And.intro (fun hg => by first | rfl | exact hg | exact (Bool.and_eq_true_iff.mp hg).1 | exact (Bool.and_eq_true_iff.mp (Bool.and_eq_true_iff.mp hg).1).1) ?_)) (fun hg => sf_call rfl rfl TT.enters_20 rfl (sim_page_Same l0 m1 _ (bT hx_15 hg)) ⟨⟨rfl, rfl, rfl⟩, rfl, Imp.refl⟩) (fun _ _ hi => nomatch hi) ?_
    refine XK.gd (v := .d (.slice (l0.map eRow))) (T := []) (some 35) rfl rfl (by repeat (first | exact trivial | refine And.intro (fun hg => by first | rfl | exact hg | exact (Bool.and_eq_true_iff.mp hg).1 | exact (Bool.and_eq_true_iff.mp (Bool.and_eq_true_iff.mp hg).1).1) ?_)) (fun hg => sf_move (v := .d (.slice (l0.map eRow))) rfl rfl ⟨⟨rfl, rfl, rfl⟩, rfl, Imp.refl⟩) (fun _ _ hi => nomatch hi) ?_
    refine XK.gd (v := .d (.slice (m1.map eRow))) (T := []) (some 36) rfl rfl (by repeat (first | exact trivial | refine And.intro (fun hg => by first | rfl | exact hg | exact (Bool.and_eq_true_iff.mp hg).1 | exact (Bool.and_eq_true_iff.mp (Bool.and_eq_true_iff.mp hg).1).1) ?_)) (fun hg => sf_move (v := .d (.slice (m1.map eRow))) rfl rfl ⟨⟨rfl, rfl, rfl⟩, rfl, Imp.refl⟩) (fun _ _ hi => nomatch hi) ?_
    obtain ⟨x_16, hx_17, h⟩ := bO h
    refine XK.gd (v := .d (.val (.bool x_16))) (T := []) (some 37) rfl rfl (by repeat (first | exact trivial | refine And.intro (fun hg => by first | rfl | exact hg | exact (Bool.and_eq_true_iff.mp hg).1 | exact (Bool.and_eq_true_iff.mp (Bool.and_eq_true_iff.mp hg).1).1) ?_)) (fun hg => sf_call rfl rfl TT.enters_21 rfl (sim_ref47_Same l0 m1 _ (bT hx_17 hg)) ⟨⟨rfl, rfl, rfl⟩, rfl, Imp.refl⟩) (fun _ _ hi => nomatch hi) ?_
    refine XK.gd (v := .d (.val (.bool (!(x_14 == x_16))))) (T := []) (some 38) rfl rfl (by repeat (first | exact trivial | refine And.intro (fun hg => by first | rfl | exact hg | exact (Bool.and_eq_true_iff.mp hg).1 | exact (Bool.and_eq_true_iff.mp (Bool.and_eq_true_iff.mp hg).1).1) ?_)) (fun hg => sf_bne (a := x_14) (b := x_16) rfl TT.under_4 rfl rfl ⟨⟨rfl, rfl, rfl⟩, rfl, Imp.refl⟩) (fun _ _ hi => nomatch hi) ?_
    refine XK.st (some 39) rfl rfl (sf_pickO rfl rfl rfl rfl (fun _ => rfl) (fun hb => by rw [hb]; rfl) ?_)
    refine XK.nil (nrm ?_)
    refine QW.cond (t := ((!((decide (x_12 = (0 : Int))) == x_10)) || (!(x_14 == x_16)))) rfl (Nat.zero_le _) (fun hb_18 => ?_) (fun hb_18 => ?_)
    · replace h := bT h hb_18
      refine QW.seq ?_
      refine QW.region (Nat.zero_le _) (PW.regT (by kernel_rfl) ?_)
      refine XK.st (some 4) rfl rfl (sf_assign (v := .d (.val (.bool false))) rfl rfl ?_)
      refine XK.nil (nrm ?_)
      refine QW.ret (Nat.zero_le _) (thR ?_)
      obtain rfl := sO h
      exact Ends.one (.inr rfl) rfl (ResIs.tmp rfl) rfl rfl
    · replace h := bF h hb_18
      refine QW.skip (Nat.zero_le _) (nrm ?_)
      refine QW.seq ?_
      refine QW.seq ?_
      refine QW.region (Nat.zero_le _) (PW.regT (by kernel_rfl) ?_)
      refine XK.st (some 40) rfl rfl (sf_move (v := .d (.val (.bool x_10))) rfl rfl ?_)
      refine XK.st (some 41) rfl rfl (sf_not rfl rfl ?_)
      refine XK.nil (nrm ?_)
      refine QW.cond (t := (!x_10)) rfl (Nat.zero_le _) (fun hb_19 => ?_) (fun hb_19 => ?_)
      · replace h := bT h hb_19
        refine QW.seq ?_
        refine QW.region (Nat.zero_le _) (PW.regT (by kernel_rfl) ?_)
        obtain ⟨x_20, hx_21, h⟩ := bO h
        refine XK.st (some 42) rfl rfl (sf_call rfl rfl TT.enters_16 rfl (sim_law47_awake  _ hx_21) ?_)
        refine XK.st (some 43) rfl rfl (sf_move (v := .d (.val (.bool x_20))) rfl rfl ?_)
        refine XK.gd (v := .d (.val (sV (x_8.1)))) (T := []) (some 44) rfl rfl (by repeat (first | exact trivial | refine And.intro (fun hg => by first | rfl | exact hg | exact (Bool.and_eq_true_iff.mp hg).1 | exact (Bool.and_eq_true_iff.mp (Bool.and_eq_true_iff.mp hg).1).1) ?_)) (fun hg => sf_move (v := .d (.val (sV (x_8.1)))) rfl rfl ⟨⟨rfl, rfl, rfl⟩, rfl, Imp.refl⟩) (fun _ _ hi => nomatch hi) ?_
        refine XK.gd (v := .d (.val (.bool (x_8.1 == ([] : List UInt8))))) (T := []) (some 45) rfl rfl (by repeat (first | exact trivial | refine And.intro (fun hg => by first | rfl | exact hg | exact (Bool.and_eq_true_iff.mp hg).1 | exact (Bool.and_eq_true_iff.mp (Bool.and_eq_true_iff.mp hg).1).1) ?_)) (fun hg => sf_seq (a := x_8.1) (b := ([] : List UInt8)) rfl rfl rfl ⟨⟨rfl, rfl, rfl⟩, rfl, Imp.refl⟩) (fun _ _ hi => nomatch hi) ?_
        refine XK.st (some 46) rfl rfl (sf_pickA rfl rfl rfl rfl (fun hb => by rw [hb]; rfl) (fun _ => rfl) ?_)
        refine XK.st (some 47) rfl rfl (sf_move (v := .d (.val (.bool (x_20 && (x_8.1 == ([] : List UInt8)))))) rfl rfl ?_)
        refine XK.gd (v := .d (.val (.int .i64 (x_8.2)))) (T := []) (some 48) rfl rfl (by repeat (first | exact trivial | refine And.intro (fun hg => by first | rfl | exact hg | exact (Bool.and_eq_true_iff.mp hg).1 | exact (Bool.and_eq_true_iff.mp (Bool.and_eq_true_iff.mp hg).1).1) ?_)) (fun hg => sf_move (v := .d (.val (.int .i64 (x_8.2)))) rfl rfl ⟨⟨rfl, rfl, rfl⟩, rfl, Imp.refl⟩) (fun _ _ hi => nomatch hi) ?_
        refine XK.gd (v := .d (.val (.bool (decide ((x_8.2) = (2 : Int)))))) (T := []) (some 49) rfl rfl (by repeat (first | exact trivial | refine And.intro (fun hg => by first | rfl | exact hg | exact (Bool.and_eq_true_iff.mp hg).1 | exact (Bool.and_eq_true_iff.mp (Bool.and_eq_true_iff.mp hg).1).1) ?_)) (fun hg => sf_eq (a := (x_8.2)) (b := (2 : Int)) rfl rfl rfl ⟨⟨rfl, rfl, rfl⟩, rfl, Imp.refl⟩) (fun _ _ hi => nomatch hi) ?_
        refine XK.st (some 50) rfl rfl (sf_pickA rfl rfl rfl rfl (fun hb => by rw [hb]; rfl) (fun _ => rfl) ?_)
        refine XK.st (some 4) rfl rfl (sf_assign (v := .d (.val (.bool ((x_20 && (x_8.1 == ([] : List UInt8))) && (decide ((x_8.2) = (2 : Int))))))) rfl rfl ?_)
        refine XK.nil (nrm ?_)
        refine QW.ret (Nat.zero_le _) (thR ?_)
        obtain rfl := sO h
        exact Ends.one (.inr rfl) rfl (ResIs.tmp rfl) rfl rfl
      · replace h := bF h hb_19
        refine QW.skip (Nat.zero_le _) (nrm ?_)
        refine QW.seq ?_
        refine QW.region (Nat.zero_le _) (PW.regT (by kernel_rfl) ?_)
        refine XK.st (some 52) rfl rfl (sf_move (v := .d (.val (sV (x_8.1)))) rfl rfl ?_)
        obtain ⟨x_22, hx_23, h⟩ := bO h
        refine XK.st (some 53) rfl rfl (sf_call rfl rfl TT.enters_22 rfl (sim_page_Get (x_8.1) _ hx_23) ?_)
        refine XK.st (some 51) rfl rfl (sf_move (v := .d (.tuple [.slice ((x_22.1).map eRow), .val (.int .i64 (x_22.2))])) rfl rfl ?_)
        refine XK.st (some 54) rfl rfl (sf_extract rfl rfl rfl ?_)
        refine XK.st (some 55) rfl rfl (sf_extract rfl rfl rfl ?_)
        refine XK.st (some 8) rfl rfl (sf_assign (v := .d (.slice ((x_22.1).map eRow))) rfl rfl ?_)
        refine XK.st (some 9) rfl rfl (sf_assign (v := .d (.val (.int .i64 (x_22.2)))) rfl rfl ?_)
        refine XK.nil (nrm ?_)
        refine QW.seq ?_
        refine QW.region (Nat.zero_le _) (PW.regT (by kernel_rfl) ?_)
        obtain ⟨x_24, hx_25, h⟩ := bO h
        refine XK.st (some 56) rfl rfl (sf_call rfl rfl TT.enters_16 rfl (sim_law47_awake  _ hx_25) ?_)
        refine XK.st (some 57) rfl rfl (sf_move (v := .d (.val (.bool x_24))) rfl rfl ?_)
        refine XK.gd (v := .d (.val (.int .i64 (x_8.2)))) (T := []) (some 58) rfl rfl (by repeat (first | exact trivial | refine And.intro (fun hg => by first | rfl | exact hg | exact (Bool.and_eq_true_iff.mp hg).1 | exact (Bool.and_eq_true_iff.mp (Bool.and_eq_true_iff.mp hg).1).1) ?_)) (fun hg => sf_move (v := .d (.val (.int .i64 (x_8.2)))) rfl rfl ⟨⟨rfl, rfl, rfl⟩, rfl, Imp.refl⟩) (fun _ _ hi => nomatch hi) ?_
        refine XK.gd (v := .d (.val (.bool (decide ((x_8.2) = (0 : Int)))))) (T := []) (some 59) rfl rfl (by repeat (first | exact trivial | refine And.intro (fun hg => by first | rfl | exact hg | exact (Bool.and_eq_true_iff.mp hg).1 | exact (Bool.and_eq_true_iff.mp (Bool.and_eq_true_iff.mp hg).1).1) ?_)) (fun hg => sf_eq (a := (x_8.2)) (b := (0 : Int)) rfl rfl rfl ⟨⟨rfl, rfl, rfl⟩, rfl, Imp.refl⟩) (fun _ _ hi => nomatch hi) ?_
        refine XK.st (some 60) rfl rfl (sf_pickA rfl rfl rfl rfl (fun hb => by rw [hb]; rfl) (fun _ => rfl) ?_)
        refine XK.st (some 61) rfl rfl (sf_move (v := .d (.val (.bool (x_24 && (decide ((x_8.2) = (0 : Int))))))) rfl rfl ?_)
        refine XK.gd (v := .d (.val (sV (x_8.1)))) (T := []) (some 62) rfl rfl (by repeat (first | exact trivial | refine And.intro (fun hg => by first | rfl | exact hg | exact (Bool.and_eq_true_iff.mp hg).1 | exact (Bool.and_eq_true_iff.mp (Bool.and_eq_true_iff.mp hg).1).1) ?_)) (fun hg => sf_move (v := .d (.val (sV (x_8.1)))) rfl rfl ⟨⟨rfl, rfl, rfl⟩, rfl, Imp.refl⟩) (fun _ _ hi => nomatch hi) ?_
        refine XK.gd (v := .d (.slice (l0.map eRow))) (T := []) (some 63) rfl rfl (by repeat (first | exact trivial | refine And.intro (fun hg => by first | rfl | exact hg | exact (Bool.and_eq_true_iff.mp hg).1 | exact (Bool.and_eq_true_iff.mp (Bool.and_eq_true_iff.mp hg).1).1) ?_)) (fun hg => sf_move (v := .d (.slice (l0.map eRow))) rfl rfl ⟨⟨rfl, rfl, rfl⟩, rfl, Imp.refl⟩) (fun _ _ hi => nomatch hi) ?_
        obtain ⟨x_26, hx_27, h⟩ := bO h
        refine XK.gd (v := .d (.val (sV x_26))) (T := []) (some 64) rfl rfl (by repeat (first | exact trivial | refine And.intro (fun hg => by first | rfl | exact hg | exact (Bool.and_eq_true_iff.mp hg).1 | exact (Bool.and_eq_true_iff.mp (Bool.and_eq_true_iff.mp hg).1).1) ?_)) (fun hg => sf_call rfl rfl TT.enters_23 rfl (sim_ref47_Put l0 _ (bT hx_27 hg)) ⟨⟨rfl, rfl, rfl⟩, rfl, Imp.refl⟩) (fun _ _ hi => nomatch hi) ?_
        refine XK.gd (v := .d (.val (.bool (x_8.1 == x_26)))) (T := []) (some 65) rfl rfl (by repeat (first | exact trivial | refine And.intro (fun hg => by first | rfl | exact hg | exact (Bool.and_eq_true_iff.mp hg).1 | exact (Bool.and_eq_true_iff.mp (Bool.and_eq_true_iff.mp hg).1).1) ?_)) (fun hg => sf_seq (a := x_8.1) (b := x_26) rfl rfl rfl ⟨⟨rfl, rfl, rfl⟩, rfl, Imp.refl⟩) (fun _ _ hi => nomatch hi) ?_
        refine XK.st (some 66) rfl rfl (sf_pickA rfl rfl rfl rfl (fun hb => by rw [hb]; rfl) (fun _ => rfl) ?_)
        refine XK.st (some 67) rfl rfl (sf_move (v := .d (.val (.bool ((x_24 && (decide ((x_8.2) = (0 : Int)))) && (x_8.1 == x_26))))) rfl rfl ?_)
        refine XK.gd (v := .d (.val (.int .i64 (x_22.2)))) (T := []) (some 68) rfl rfl (by repeat (first | exact trivial | refine And.intro (fun hg => by first | rfl | exact hg | exact (Bool.and_eq_true_iff.mp hg).1 | exact (Bool.and_eq_true_iff.mp (Bool.and_eq_true_iff.mp hg).1).1) ?_)) (fun hg => sf_move (v := .d (.val (.int .i64 (x_22.2)))) rfl rfl ⟨⟨rfl, rfl, rfl⟩, rfl, Imp.refl⟩) (fun _ _ hi => nomatch hi) ?_
        refine XK.gd (v := .d (.val (.bool (decide ((x_22.2) = (0 : Int)))))) (T := []) (some 69) rfl rfl (by repeat (first | exact trivial | refine And.intro (fun hg => by first | rfl | exact hg | exact (Bool.and_eq_true_iff.mp hg).1 | exact (Bool.and_eq_true_iff.mp (Bool.and_eq_true_iff.mp hg).1).1) ?_)) (fun hg => sf_eq (a := (x_22.2)) (b := (0 : Int)) rfl rfl rfl ⟨⟨rfl, rfl, rfl⟩, rfl, Imp.refl⟩) (fun _ _ hi => nomatch hi) ?_
        refine XK.st (some 70) rfl rfl (sf_pickA rfl rfl rfl rfl (fun hb => by rw [hb]; rfl) (fun _ => rfl) ?_)
        refine XK.st (some 71) rfl rfl (sf_move (v := .d (.val (.bool (((x_24 && (decide ((x_8.2) = (0 : Int)))) && (x_8.1 == x_26)) && (decide ((x_22.2) = (0 : Int))))))) rfl rfl ?_)
        refine XK.gd (v := .d (.slice ((x_22.1).map eRow))) (T := []) (some 72) rfl rfl (by repeat (first | exact trivial | refine And.intro (fun hg => by first | rfl | exact hg | exact (Bool.and_eq_true_iff.mp hg).1 | exact (Bool.and_eq_true_iff.mp (Bool.and_eq_true_iff.mp hg).1).1) ?_)) (fun hg => sf_move (v := .d (.slice ((x_22.1).map eRow))) rfl rfl ⟨⟨rfl, rfl, rfl⟩, rfl, Imp.refl⟩) (fun _ _ hi => nomatch hi) ?_
        refine XK.gd (v := .d (.slice (l0.map eRow))) (T := []) (some 73) rfl rfl (by repeat (first | exact trivial | refine And.intro (fun hg => by first | rfl | exact hg | exact (Bool.and_eq_true_iff.mp hg).1 | exact (Bool.and_eq_true_iff.mp (Bool.and_eq_true_iff.mp hg).1).1) ?_)) (fun hg => sf_move (v := .d (.slice (l0.map eRow))) rfl rfl ⟨⟨rfl, rfl, rfl⟩, rfl, Imp.refl⟩) (fun _ _ hi => nomatch hi) ?_
        obtain ⟨x_28, hx_29, h⟩ := bO h
        refine XK.gd (v := .d (.val (.bool x_28))) (T := []) (some 74) rfl rfl (by repeat (first | exact trivial | refine And.intro (fun hg => by first | rfl | exact hg | exact (Bool.and_eq_true_iff.mp hg).1 | exact (Bool.and_eq_true_iff.mp (Bool.and_eq_true_iff.mp hg).1).1) ?_)) (fun hg => sf_call rfl rfl TT.enters_21 rfl (sim_ref47_Same (x_22.1) l0 _ (bT hx_29 hg)) ⟨⟨rfl, rfl, rfl⟩, rfl, Imp.refl⟩) (fun _ _ hi => nomatch hi) ?_
        refine XK.st (some 75) rfl rfl (sf_pickA rfl rfl rfl rfl (fun hb => by rw [hb]; rfl) (fun _ => rfl) ?_)
        refine XK.st (some 4) rfl rfl (sf_assign (v := .d (.val (.bool ((((x_24 && (decide ((x_8.2) = (0 : Int)))) && (x_8.1 == x_26)) && (decide ((x_22.2) = (0 : Int)))) && x_28)))) rfl rfl ?_)
        refine XK.nil (nrm ?_)
        refine QW.ret (Nat.zero_le _) ?_
        obtain rfl := sO h
        exact Ends.one (.inr rfl) rfl (ResIs.tmp rfl) rfl rfl

noncomputable def g_law47_PageGets (s0 : (List UInt8)) : Option Bool :=
    (bif (decide ((1500 : Int) < (s0.length : Int))) then
    ((g_law47_awake ).bind fun (x_2 : Bool) =>
    some x_2)
    else
    ((g_page_Get s0).bind fun (x_4 : ((List Row) × Int)) =>
    (bif (!decide ((x_4.2) = (0 : Int))) then
    ((g_law47_awake ).bind fun (x_7 : Bool) =>
    some ((x_7 && (decide (((x_4.1).length : Int) = (0 : Int)))) && ((decide ((x_4.2) = (5 : Int))) || (decide ((x_4.2) = (6 : Int))))))
    else
    ((g_law47_awake ).bind fun (x_9 : Bool) =>
    ((bif (x_9 == true) then g_ref47_May (x_4.1) else some default).bind fun (x_11 : Bool) =>
    ((bif ((x_9 && x_11) == true) then g_ref47_Put (x_4.1) else some default).bind fun (x_13 : (List UInt8)) =>
    some ((x_9 && x_11) && (x_13 == s0))))))))

set_option maxRecDepth 20000 in
set_option maxHeartbeats 4000000 in
theorem sim_law47_PageGets (s0 : (List UInt8)) (r : Bool) (h : g_law47_PageGets s0 = some r) : Fun Try.prog 4 [.val (sV s0)] (.val (.bool r)) := by
  refine Fun.of_bodyQ Try.func4 rfl (by simp [Try.ntmps4]) ?_
  rw [Try.ntmps4, TT.res_4]
  refine QW.view (s' := ⟨tab [(0, .d (.val (sV s0)))], tabH [], 0, []⟩) (View.init (by rfl)) (Nat.zero_le _) ?_
  unfold g_law47_PageGets at h
  refine QW.seq ?_
  refine QW.region (Nat.zero_le _) (PW.regT (by kernel_rfl) ?_)
  refine XK.st (some 2) rfl rfl (sf_assign (v := .d (.val (.bool false))) rfl rfl ?_)
  refine XK.nil (nrm ?_)
  refine QW.seq ?_
  refine QW.seq ?_
  refine QW.region (Nat.zero_le _) (PW.regT (by kernel_rfl) ?_)
  refine XK.st (some 5) rfl rfl (sf_move (v := .d (.val (sV s0))) rfl rfl ?_)
  refine XK.st (some 6) rfl rfl (sf_lenS (l := s0) rfl TT.under_9 rfl ?_)
  refine XK.st (some 7) rfl rfl (sf_gtr (a := (s0.length : Int)) (b := (1500 : Int)) rfl rfl rfl ?_)
  refine XK.nil (nrm ?_)
  refine QW.cond (t := (decide ((1500 : Int) < (s0.length : Int)))) rfl (Nat.zero_le _) (fun hb_1 => ?_) (fun hb_1 => ?_)
  · replace h := bT h hb_1
    refine QW.seq ?_
    refine QW.region (Nat.zero_le _) (PW.regT (by kernel_rfl) ?_)
    obtain ⟨x_2, hx_3, h⟩ := bO h
    refine XK.st (some 8) rfl rfl (sf_call rfl rfl TT.enters_16 rfl (sim_law47_awake  _ hx_3) ?_)
    refine XK.st (some 2) rfl rfl (sf_assign (v := .d (.val (.bool x_2))) rfl rfl ?_)
    refine XK.nil (nrm ?_)
    refine QW.ret (Nat.zero_le _) (thR ?_)
    obtain rfl := sO h
    exact Ends.one (.inr rfl) rfl (ResIs.tmp rfl) rfl rfl
  · replace h := bF h hb_1
    refine QW.skip (Nat.zero_le _) (nrm ?_)
    refine QW.seq ?_
    refine QW.region (Nat.zero_le _) (PW.regT (by kernel_rfl) ?_)
    refine XK.st (some 10) rfl rfl (sf_move (v := .d (.val (sV s0))) rfl rfl ?_)
    obtain ⟨x_4, hx_5, h⟩ := bO h
    refine XK.st (some 11) rfl rfl (sf_call rfl rfl TT.enters_22 rfl (sim_page_Get s0 _ hx_5) ?_)
    refine XK.st (some 9) rfl rfl (sf_move (v := .d (.tuple [.slice ((x_4.1).map eRow), .val (.int .i64 (x_4.2))])) rfl rfl ?_)
    refine XK.st (some 12) rfl rfl (sf_extract rfl rfl rfl ?_)
    refine XK.st (some 13) rfl rfl (sf_extract rfl rfl rfl ?_)
    refine XK.st (some 3) rfl rfl (sf_assign (v := .d (.slice ((x_4.1).map eRow))) rfl rfl ?_)
    refine XK.st (some 4) rfl rfl (sf_assign (v := .d (.val (.int .i64 (x_4.2)))) rfl rfl ?_)
    refine XK.nil (nrm ?_)
    refine QW.seq ?_
    refine QW.seq ?_
    refine QW.region (Nat.zero_le _) (PW.regT (by kernel_rfl) ?_)
    refine XK.st (some 14) rfl rfl (sf_move (v := .d (.val (.int .i64 (x_4.2)))) rfl rfl ?_)
    refine XK.st (some 15) rfl rfl (sf_ne (a := (x_4.2)) (b := (0 : Int)) rfl rfl rfl ?_)
    refine XK.nil (nrm ?_)
    refine QW.cond (t := (!decide ((x_4.2) = (0 : Int)))) rfl (Nat.zero_le _) (fun hb_6 => ?_) (fun hb_6 => ?_)
    · replace h := bT h hb_6
      refine QW.seq ?_
      refine QW.region (Nat.zero_le _) (PW.regT (by kernel_rfl) ?_)
      obtain ⟨x_7, hx_8, h⟩ := bO h
      refine XK.st (some 16) rfl rfl (sf_call rfl rfl TT.enters_16 rfl (sim_law47_awake  _ hx_8) ?_)
      refine XK.st (some 17) rfl rfl (sf_move (v := .d (.val (.bool x_7))) rfl rfl ?_)
      refine XK.gd (v := .d (.slice ((x_4.1).map eRow))) (T := []) (some 18) rfl rfl (by repeat (first | exact trivial | refine And.intro (fun hg => by first | rfl | exact hg | exact (Bool.and_eq_true_iff.mp hg).1 | exact (Bool.and_eq_true_iff.mp (Bool.and_eq_true_iff.mp hg).1).1) ?_)) (fun hg => sf_move (v := .d (.slice ((x_4.1).map eRow))) rfl rfl ⟨⟨rfl, rfl, rfl⟩, rfl, Imp.refl⟩) (fun _ _ hi => nomatch hi) ?_
      refine XK.gd (v := .d (.val (.int .i64 ((x_4.1).length : Int)))) (T := []) (some 19) rfl rfl (by repeat (first | exact trivial | refine And.intro (fun hg => by first | rfl | exact hg | exact (Bool.and_eq_true_iff.mp hg).1 | exact (Bool.and_eq_true_iff.mp (Bool.and_eq_true_iff.mp hg).1).1) ?_)) (fun hg => sf_lenL (en := eRow) (l := x_4.1) rfl TT.under_22 rfl ⟨⟨rfl, rfl, rfl⟩, rfl, Imp.refl⟩) (fun _ _ hi => nomatch hi) ?_
      refine XK.gd (v := .d (.val (.bool (decide (((x_4.1).length : Int) = (0 : Int)))))) (T := []) (some 20) rfl rfl (by repeat (first | exact trivial | refine And.intro (fun hg => by first | rfl | exact hg | exact (Bool.and_eq_true_iff.mp hg).1 | exact (Bool.and_eq_true_iff.mp (Bool.and_eq_true_iff.mp hg).1).1) ?_)) (fun hg => sf_eq (a := ((x_4.1).length : Int)) (b := (0 : Int)) rfl rfl rfl ⟨⟨rfl, rfl, rfl⟩, rfl, Imp.refl⟩) (fun _ _ hi => nomatch hi) ?_
      refine XK.st (some 21) rfl rfl (sf_pickA rfl rfl rfl rfl (fun hb => by rw [hb]; rfl) (fun _ => rfl) ?_)
      refine XK.st (some 22) rfl rfl (sf_move (v := .d (.val (.bool (x_7 && (decide (((x_4.1).length : Int) = (0 : Int))))))) rfl rfl ?_)
      refine XK.gd (v := .d (.val (.int .i64 (x_4.2)))) (T := []) (some 23) rfl rfl (by repeat (first | exact trivial | refine And.intro (fun hg => by first | rfl | exact hg | exact (Bool.and_eq_true_iff.mp hg).1 | exact (Bool.and_eq_true_iff.mp (Bool.and_eq_true_iff.mp hg).1).1) ?_)) (fun hg => sf_move (v := .d (.val (.int .i64 (x_4.2)))) rfl rfl ⟨⟨rfl, rfl, rfl⟩, rfl, Imp.refl⟩) (fun _ _ hi => nomatch hi) ?_
      refine XK.gd (v := .d (.val (.bool (decide ((x_4.2) = (5 : Int)))))) (T := []) (some 24) rfl rfl (by repeat (first | exact trivial | refine And.intro (fun hg => by first | rfl | exact hg | exact (Bool.and_eq_true_iff.mp hg).1 | exact (Bool.and_eq_true_iff.mp (Bool.and_eq_true_iff.mp hg).1).1) ?_)) (fun hg => sf_eq (a := (x_4.2)) (b := (5 : Int)) rfl rfl rfl ⟨⟨rfl, rfl, rfl⟩, rfl, Imp.refl⟩) (fun _ _ hi => nomatch hi) ?_
      refine XK.gd (v := .d (.val (.bool (decide ((x_4.2) = (5 : Int)))))) (T := []) (some 25) rfl rfl (by repeat (first | exact trivial | refine And.intro (fun hg => by first | rfl | exact hg | exact (Bool.and_eq_true_iff.mp hg).1 | exact (Bool.and_eq_true_iff.mp (Bool.and_eq_true_iff.mp hg).1).1) ?_)) (fun hg => sf_move (v := .d (.val (.bool (decide ((x_4.2) = (5 : Int)))))) rfl rfl ⟨⟨rfl, rfl, rfl⟩, rfl, Imp.refl⟩) (fun _ _ hi => nomatch hi) ?_
      refine XK.gd (v := .d (.val (.int .i64 (x_4.2)))) (T := []) (some 26) rfl rfl (by repeat (first | exact trivial | refine And.intro (fun hg => by first | rfl | exact hg | exact (Bool.and_eq_true_iff.mp hg).1 | exact (Bool.and_eq_true_iff.mp (Bool.and_eq_true_iff.mp hg).1).1) ?_)) (fun hg => sf_move (v := .d (.val (.int .i64 (x_4.2)))) rfl rfl ⟨⟨rfl, rfl, rfl⟩, rfl, Imp.refl⟩) (fun _ _ hi => nomatch hi) ?_
      refine XK.gd (v := .d (.val (.bool (decide ((x_4.2) = (6 : Int)))))) (T := []) (some 27) rfl rfl (by repeat (first | exact trivial | refine And.intro (fun hg => by first | rfl | exact hg | exact (Bool.and_eq_true_iff.mp hg).1 | exact (Bool.and_eq_true_iff.mp (Bool.and_eq_true_iff.mp hg).1).1) ?_)) (fun hg => sf_eq (a := (x_4.2)) (b := (6 : Int)) rfl rfl rfl ⟨⟨rfl, rfl, rfl⟩, rfl, Imp.refl⟩) (fun _ _ hi => nomatch hi) ?_
      refine XK.gp (some 28) rfl rfl rfl rfl rfl rfl (fun h => h) (fun _ _ => rfl) (fun hg hb => by first | (rw [hg, hb]; rfl) | (simp only [hg, hb]; rfl) | simp_all) ((decide ((x_4.2) = (5 : Int))) || (decide ((x_4.2) = (6 : Int)))) (bif_or _ _) ?_
      refine XK.st (some 29) rfl rfl (sf_pickA rfl rfl rfl rfl (fun hb => by rw [hb]; rfl) (fun _ => rfl) ?_)
      refine XK.st (some 2) rfl rfl (sf_assign (v := .d (.val (.bool ((x_7 && (decide (((x_4.1).length : Int) = (0 : Int)))) && ((decide ((x_4.2) = (5 : Int))) || (decide ((x_4.2) = (6 : Int)))))))) rfl rfl ?_)
      refine XK.nil (nrm ?_)
      refine QW.ret (Nat.zero_le _) (thR ?_)
      obtain rfl := sO h
      exact Ends.one (.inr rfl) rfl (ResIs.tmp rfl) rfl rfl
    · replace h := bF h hb_6
      refine QW.skip (Nat.zero_le _) (nrm ?_)
      refine QW.seq ?_
      refine QW.region (Nat.zero_le _) (PW.regT (by kernel_rfl) ?_)
      obtain ⟨x_9, hx_10, h⟩ := bO h
      refine XK.st (some 30) rfl rfl (sf_call rfl rfl TT.enters_16 rfl (sim_law47_awake  _ hx_10) ?_)
      refine XK.st (some 31) rfl rfl (sf_move (v := .d (.val (.bool x_9))) rfl rfl ?_)
      refine XK.gd (v := .d (.slice ((x_4.1).map eRow))) (T := []) (some 32) rfl rfl (by repeat (first | exact trivial | refine And.intro (fun hg => by first | rfl | exact hg | exact (Bool.and_eq_true_iff.mp hg).1 | exact (Bool.and_eq_true_iff.mp (Bool.and_eq_true_iff.mp hg).1).1) ?_)) (fun hg => sf_move (v := .d (.slice ((x_4.1).map eRow))) rfl rfl ⟨⟨rfl, rfl, rfl⟩, rfl, Imp.refl⟩) (fun _ _ hi => nomatch hi) ?_
      obtain ⟨x_11, hx_12, h⟩ := bO h
      refine XK.gd (v := .d (.val (.bool x_11))) (T := []) (some 33) rfl rfl (by repeat (first | exact trivial | refine And.intro (fun hg => by first | rfl | exact hg | exact (Bool.and_eq_true_iff.mp hg).1 | exact (Bool.and_eq_true_iff.mp (Bool.and_eq_true_iff.mp hg).1).1) ?_)) (fun hg => sf_call rfl rfl TT.enters_18 rfl (sim_ref47_May (x_4.1) _ (bT hx_12 hg)) ⟨⟨rfl, rfl, rfl⟩, rfl, Imp.refl⟩) (fun _ _ hi => nomatch hi) ?_
      refine XK.st (some 34) rfl rfl (sf_pickA rfl rfl rfl rfl (fun hb => by rw [hb]; rfl) (fun _ => rfl) ?_)
      refine XK.st (some 35) rfl rfl (sf_move (v := .d (.val (.bool (x_9 && x_11)))) rfl rfl ?_)
      refine XK.gd (v := .d (.slice ((x_4.1).map eRow))) (T := []) (some 36) rfl rfl (by repeat (first | exact trivial | refine And.intro (fun hg => by first | rfl | exact hg | exact (Bool.and_eq_true_iff.mp hg).1 | exact (Bool.and_eq_true_iff.mp (Bool.and_eq_true_iff.mp hg).1).1) ?_)) (fun hg => sf_move (v := .d (.slice ((x_4.1).map eRow))) rfl rfl ⟨⟨rfl, rfl, rfl⟩, rfl, Imp.refl⟩) (fun _ _ hi => nomatch hi) ?_
      obtain ⟨x_13, hx_14, h⟩ := bO h
      refine XK.gd (v := .d (.val (sV x_13))) (T := []) (some 37) rfl rfl (by repeat (first | exact trivial | refine And.intro (fun hg => by first | rfl | exact hg | exact (Bool.and_eq_true_iff.mp hg).1 | exact (Bool.and_eq_true_iff.mp (Bool.and_eq_true_iff.mp hg).1).1) ?_)) (fun hg => sf_call rfl rfl TT.enters_23 rfl (sim_ref47_Put (x_4.1) _ (bT hx_14 hg)) ⟨⟨rfl, rfl, rfl⟩, rfl, Imp.refl⟩) (fun _ _ hi => nomatch hi) ?_
      refine XK.gd (v := .d (.val (sV s0))) (T := []) (some 38) rfl rfl (by repeat (first | exact trivial | refine And.intro (fun hg => by first | rfl | exact hg | exact (Bool.and_eq_true_iff.mp hg).1 | exact (Bool.and_eq_true_iff.mp (Bool.and_eq_true_iff.mp hg).1).1) ?_)) (fun hg => sf_move (v := .d (.val (sV s0))) rfl rfl ⟨⟨rfl, rfl, rfl⟩, rfl, Imp.refl⟩) (fun _ _ hi => nomatch hi) ?_
      refine XK.gd (v := .d (.val (.bool (x_13 == s0)))) (T := []) (some 39) rfl rfl (by repeat (first | exact trivial | refine And.intro (fun hg => by first | rfl | exact hg | exact (Bool.and_eq_true_iff.mp hg).1 | exact (Bool.and_eq_true_iff.mp (Bool.and_eq_true_iff.mp hg).1).1) ?_)) (fun hg => sf_seq (a := x_13) (b := s0) rfl rfl rfl ⟨⟨rfl, rfl, rfl⟩, rfl, Imp.refl⟩) (fun _ _ hi => nomatch hi) ?_
      refine XK.st (some 40) rfl rfl (sf_pickA rfl rfl rfl rfl (fun hb => by rw [hb]; rfl) (fun _ => rfl) ?_)
      refine XK.st (some 2) rfl rfl (sf_assign (v := .d (.val (.bool ((x_9 && x_11) && (x_13 == s0))))) rfl rfl ?_)
      refine XK.nil (nrm ?_)
      refine QW.ret (Nat.zero_le _) ?_
      obtain rfl := sO h
      exact Ends.one (.inr rfl) rfl (ResIs.tmp rfl) rfl rfl

noncomputable def g_law47_PageRows (l0 : (List Row)) (r1 : Row) (i2 : Int) : Option Bool :=
    ((g_law47_light l0).bind fun (x_1 : Bool) =>
    (bif ((!x_1) || (decide ((300 : Int) < ((r1.fBody).length : Int)))) then
    ((g_law47_awake ).bind fun (x_4 : Bool) =>
    some x_4)
    else
    ((g_ref47_Sort l0).bind fun (x_6 : (List Row)) =>
    gO ((([] : List Row).length + x_6.length) * 56 ≤ 140737488355328) (
    ((g_page_Insert (([] : List Row) ++ x_6) r1).bind fun (x_9 : ((List Row) × Bool)) =>
    ((g_page_Find x_6 (r1.fSum) (r1.fEpoch)).bind fun (x_11 : (Int × Bool)) =>
    ((g_ref47_Find x_6 (r1.fSum) (r1.fEpoch)).bind fun (x_13 : Int) =>
    (bif (((!(x_9.2 == (decide (x_13 < (0 : Int))))) || (!(x_11.2 == (decide ((0 : Int) ≤ x_13))))) || (x_11.2 && (!decide ((x_11.1) = x_13)))) then
    some false
    else
    gO ((([] : List Row).length + x_6.length) * 56 ≤ 140737488355328) (
    gO (((([] : List Row) ++ x_6).length + ([r1] : List Row).length) * 56 ≤ 140737488355328) (
    ((g_ref47_Sort ((([] : List Row) ++ x_6) ++ ([r1] : List Row))).bind fun (x_18 : (List Row)) =>
    ((g_ref47_Same (x_9.1) x_18).bind fun (x_20 : Bool) =>
    (bif (!x_20) then
    some false
    else
    gO (((((!(x_11).2) == true) && (((decide ((x_11.1) < (0 : Int))) || (decide ((x_6.length : Int) < (x_11.1)))) == false)) && ((decide ((0 : Int) < (x_11.1))) == true)) = true → inI ((x_11.1) - (1 : Int))) (
    gO (((((!(x_11).2) == true) && (((decide ((x_11.1) < (0 : Int))) || (decide ((x_6.length : Int) < (x_11.1)))) == false)) && ((decide ((0 : Int) < (x_11.1))) == true)) = true → 0 ≤ ((x_11.1) - (1 : Int)) ∧ ((x_11.1) - (1 : Int)) < (x_6.length : Int)) (
    ((bif ((((!(x_11).2) == true) && (((decide ((x_11.1) < (0 : Int))) || (decide ((x_6.length : Int) < (x_11.1)))) == false)) && ((decide ((0 : Int) < (x_11.1))) == true)) then g_ref47_Less (idx x_6 ((x_11.1) - (1 : Int))) r1 else some default).bind fun (x_25 : Bool) =>
    gO (((((!(x_11).2) == true) && ((((decide ((x_11.1) < (0 : Int))) || (decide ((x_6.length : Int) < (x_11.1)))) || ((decide ((0 : Int) < (x_11.1))) && (!x_25))) == false)) && ((decide ((x_11.1) < (x_6.length : Int))) == true)) = true → 0 ≤ (x_11.1) ∧ (x_11.1) < (x_6.length : Int)) (
    ((bif ((((!(x_11).2) == true) && ((((decide ((x_11.1) < (0 : Int))) || (decide ((x_6.length : Int) < (x_11.1)))) || ((decide ((0 : Int) < (x_11.1))) && (!x_25))) == false)) && ((decide ((x_11.1) < (x_6.length : Int))) == true)) then g_ref47_Less r1 (idx x_6 (x_11.1)) else some default).bind fun (x_28 : Bool) =>
    (bif ((!(x_11).2) && ((((decide ((x_11.1) < (0 : Int))) || (decide ((x_6.length : Int) < (x_11.1)))) || ((decide ((0 : Int) < (x_11.1))) && (!x_25))) || ((decide ((x_11.1) < (x_6.length : Int))) && (!x_28)))) then
    some false
    else
    gO ((([] : List Row).length + x_6.length) * 56 ≤ 140737488355328) (
    ((g_page_Remove (([] : List Row) ++ x_6) i2).bind fun (x_32 : (List Row)) =>
    (((bif ((decide ((0 : Int) ≤ i2)) && (decide (i2 < (x_6.length : Int)))) then
    gO (0 ≤ (0 : Int) ∧ (0 : Int) ≤ i2 ∧ i2 ≤ (x_6.length : Int)) (
    gO ((([] : List Row).length + (sub x_6 (0 : Int) i2).length) * 56 ≤ 140737488355328) (
    gO (inI (i2 + (1 : Int))) (
    gO (0 ≤ (i2 + (1 : Int)) ∧ (i2 + (1 : Int)) ≤ (x_6.length : Int) ∧ (x_6.length : Int) ≤ (x_6.length : Int)) (
    gO (((([] : List Row) ++ (sub x_6 (0 : Int) i2)).length + (sub x_6 (i2 + (1 : Int)) (x_6.length : Int)).length) * 56 ≤ 140737488355328) (
    some ((([] : List Row) ++ (sub x_6 (0 : Int) i2)) ++ (sub x_6 (i2 + (1 : Int)) (x_6.length : Int))))))))
    else
    some x_6) : Option (List Row)).bind fun (v14 : (List Row)) =>
    ((g_page_Split x_6).bind fun (x_40 : ((List Row) × (List Row))) =>
    ((g_law47_awake ).bind fun (x_42 : Bool) =>
    ((bif (x_42 == true) then g_ref47_Same x_32 v14 else some default).bind fun (x_44 : Bool) =>
    (bif (x_42 && x_44) then
    gO ((([] : List Row).length + (x_40.1).length) * 56 ≤ 140737488355328) (
    gO (((([] : List Row) ++ x_40.1).length + (x_40.2).length) * 56 ≤ 140737488355328) (
    ((g_ref47_Same ((([] : List Row) ++ x_40.1) ++ x_40.2) x_6).bind fun (x_49 : Bool) =>
    gO (((x_49 == true) && ((decide (((x_40.1).length : Int) = ((x_40.2).length : Int))) == false)) = true → inI (((x_40.2).length : Int) + (1 : Int))) (
    gO ((((x_49 && ((decide (((x_40.1).length : Int) = ((x_40.2).length : Int))) || (decide (((x_40.1).length : Int) = (((x_40.2).length : Int) + (1 : Int)))))) == true) && ((decide ((x_6.length : Int) < (2 : Int))) == false)) = true → 0 ≤ (0 : Int) ∧ (0 : Int) < (x_6.length : Int)) (
    gO ((((x_49 && ((decide (((x_40.1).length : Int) = ((x_40.2).length : Int))) || (decide (((x_40.1).length : Int) = (((x_40.2).length : Int) + (1 : Int)))))) == true) && ((decide ((x_6.length : Int) < (2 : Int))) == false)) = true → 0 ≤ (1 : Int) ∧ (1 : Int) < (x_6.length : Int)) (
    ((bif (((x_49 && ((decide (((x_40.1).length : Int) = ((x_40.2).length : Int))) || (decide (((x_40.1).length : Int) = (((x_40.2).length : Int) + (1 : Int)))))) == true) && ((decide ((x_6.length : Int) < (2 : Int))) == false)) then g_page_Less (idx x_6 (0 : Int)) (idx x_6 (1 : Int)) else some default).bind fun (x_54 : Bool) =>
    some ((x_49 && ((decide (((x_40.1).length : Int) = ((x_40.2).length : Int))) || (decide (((x_40.1).length : Int) = (((x_40.2).length : Int) + (1 : Int)))))) && ((decide ((x_6.length : Int) < (2 : Int))) || x_54)))))))))
    else
    some false))))))))))))))))))))))))))

set_option maxRecDepth 20000 in
set_option maxHeartbeats 4000000 in
theorem sim_law47_PageRows (l0 : (List Row)) (r1 : Row) (i2 : Int) (r : Bool) (h : g_law47_PageRows l0 r1 i2 = some r) : Fun Try.prog 5 [.slice (l0.map eRow), .agg (cRow r1), .val (.int .i64 i2)] (.val (.bool r)) := by
  refine Fun.of_bodyQ Try.func5 rfl (by simp [Try.ntmps5]) ?_
  rw [Try.ntmps5, TT.res_5]
  refine QW.view (s' := ⟨tab [(0, .d (.slice (l0.map eRow))), (1, .d (.agg (cRow r1))), (2, .d (.val (.int .i64 i2)))], tabH [], 0, []⟩) (View.init (by rfl)) (Nat.zero_le _) ?_
  unfold g_law47_PageRows at h
  refine QW.seq ?_
  refine QW.region (Nat.zero_le _) (PW.regT (by kernel_rfl) ?_)
  refine XK.fz (some 4) rfl rfl (sf_boxF (ds := cRow r1) rfl rfl rfl rfl toDs_map ?_)
  refine XK.st (some 6) rfl rfl (sf_assign (v := .d (.val (.bool false))) rfl rfl ?_)
  refine XK.nil (nrm ?_)
  refine QW.seq ?_
  refine QW.seq ?_
  refine QW.region (Nat.zero_le _) (PW.regT (by kernel_rfl) ?_)
  refine XK.st (some 17) rfl rfl (sf_move (v := .d (.slice (l0.map eRow))) rfl rfl ?_)
  obtain ⟨x_1, hx_2, h⟩ := bO h
  refine XK.st (some 18) rfl rfl (sf_call rfl rfl TT.enters_15 rfl (sim_law47_light l0 _ hx_2) ?_)
  refine XK.st (some 19) rfl rfl (sf_not rfl rfl ?_)
  refine XK.st (some 20) rfl rfl (sf_move (v := .d (.val (.bool (!x_1)))) rfl rfl ?_)
  refine XK.gd (v := .d (.cptr ((cRow r1).drop 33))) (T := []) (some 21) rfl rfl (by repeat (first | exact trivial | refine And.intro (fun hg => by first | rfl | exact hg | exact (Bool.and_eq_true_iff.mp hg).1 | exact (Bool.and_eq_true_iff.mp (Bool.and_eq_true_iff.mp hg).1).1) ?_)) (fun hg => sf_fldC rfl TT.fldA_37_2 (by decide) rfl ⟨⟨rfl, rfl, rfl⟩, rfl, Imp.refl⟩) (fun _ _ hi => nomatch hi) ?_
  refine XK.gd (v := .d (.val (sV (r1.fBody)))) (T := []) (some 22) rfl rfl (by repeat (first | exact trivial | refine And.intro (fun hg => by first | rfl | exact hg | exact (Bool.and_eq_true_iff.mp hg).1 | exact (Bool.and_eq_true_iff.mp (Bool.and_eq_true_iff.mp hg).1).1) ?_)) (fun hg => sf_ldC (d := .val (sV (r1.fBody))) rfl TT.tyA_9 rfl (ldc_Row_2 _) ⟨⟨rfl, rfl, rfl⟩, rfl, Imp.refl⟩) (fun _ _ hi => nomatch hi) ?_
  refine XK.gd (v := .d (.val (.int .i64 ((r1.fBody).length : Int)))) (T := []) (some 23) rfl rfl (by repeat (first | exact trivial | refine And.intro (fun hg => by first | rfl | exact hg | exact (Bool.and_eq_true_iff.mp hg).1 | exact (Bool.and_eq_true_iff.mp (Bool.and_eq_true_iff.mp hg).1).1) ?_)) (fun hg => sf_lenS (l := r1.fBody) rfl TT.under_9 rfl ⟨⟨rfl, rfl, rfl⟩, rfl, Imp.refl⟩) (fun _ _ hi => nomatch hi) ?_
  refine XK.gd (v := .d (.val (.bool (decide ((300 : Int) < ((r1.fBody).length : Int)))))) (T := []) (some 24) rfl rfl (by repeat (first | exact trivial | refine And.intro (fun hg => by first | rfl | exact hg | exact (Bool.and_eq_true_iff.mp hg).1 | exact (Bool.and_eq_true_iff.mp (Bool.and_eq_true_iff.mp hg).1).1) ?_)) (fun hg => sf_gtr (a := ((r1.fBody).length : Int)) (b := (300 : Int)) rfl rfl rfl ⟨⟨rfl, rfl, rfl⟩, rfl, Imp.refl⟩) (fun _ _ hi => nomatch hi) ?_
  refine XK.st (some 25) rfl rfl (sf_pickO rfl rfl rfl rfl (fun _ => rfl) (fun hb => by rw [hb]; rfl) ?_)
  refine XK.nil (nrm ?_)
  refine QW.cond (t := ((!x_1) || (decide ((300 : Int) < ((r1.fBody).length : Int))))) rfl (Nat.zero_le _) (fun hb_3 => ?_) (fun hb_3 => ?_)
  · replace h := bT h hb_3
    refine QW.seq ?_
    refine QW.region (Nat.zero_le _) (PW.regT (by kernel_rfl) ?_)
    obtain ⟨x_4, hx_5, h⟩ := bO h
    refine XK.st (some 26) rfl rfl (sf_call rfl rfl TT.enters_16 rfl (sim_law47_awake  _ hx_5) ?_)
    refine XK.st (some 6) rfl rfl (sf_assign (v := .d (.val (.bool x_4))) rfl rfl ?_)
    refine XK.nil (nrm ?_)
    refine QW.ret (Nat.zero_le _) (thR ?_)
    obtain rfl := sO h
    exact Ends.one (.inr rfl) rfl (ResIs.tmp rfl) rfl rfl
  · replace h := bF h hb_3
    refine QW.skip (Nat.zero_le _) (nrm ?_)
    refine QW.seq ?_
    refine QW.region (Nat.zero_le _) (PW.regT (by kernel_rfl) ?_)
    refine XK.st (some 27) rfl rfl (sf_move (v := .d (.slice (l0.map eRow))) rfl rfl ?_)
    obtain ⟨x_6, hx_7, h⟩ := bO h
    refine XK.st (some 28) rfl rfl (sf_call rfl rfl TT.enters_24 rfl (sim_ref47_Sort l0 _ hx_7) ?_)
    refine XK.st (some 7) rfl rfl (sf_assign (v := .d (.slice (x_6.map eRow))) rfl rfl ?_)
    refine XK.nil (nrm ?_)
    refine QW.seq ?_
    refine QW.region (Nat.zero_le _) (PW.regK (id := 4) mixedX (M := _) rfl (by kernel_rfl) ?_)
    refine RK.st (some 30) rfl rfl (sf_row (en := eRow) (l := ([] : List Row)) rfl TT.rowA_22 lay_Row (by first | rfl | (simp only [List.map_cons, List.map_nil, eRow_eq]; rfl)) rfl (by decide) (by simp [solids, partsP, evP, ofVal, PV.solid, putS_at, tab, unS, unT, unC, asCond, Value.oneCell']) ?_)
    refine RK.st (some 31) rfl rfl (sf_move (v := .d (.slice (x_6.map eRow))) rfl rfl ?_)
    obtain ⟨c_8, h⟩ := gO_get h
    refine RK.st (some 32) rfl rfl (sf_appF (en := eRow) (l := ([] : List Row)) (l2 := x_6) rfl TT.rowA_22 TT.under_22 rfl lay_Row rfl rfl ⟨c_8, fun _ => rfl⟩ (by decide) ?_)
    refine RK.st (some 33) rfl rfl (sf_ldC (d := .agg (cRow r1)) rfl TT.tyA_37 rfl (⟨by rw [lay_Row.len]; decide, congrArg D.agg (List.take_of_length_le (by rw [lay_Row.len]; decide))⟩) ?_)
    obtain ⟨x_9, hx_10, h⟩ := bO h
    refine RK.st (some 34) rfl rfl (sf_call rfl rfl TT.enters_25 rfl (sim_page_Insert (([] : List Row) ++ x_6) r1 _ hx_10) ?_)
    refine RK.st (some 29) rfl rfl (sf_move (v := .d (.tuple [.slice ((x_9.1).map eRow), .val (.bool (x_9.2))])) rfl rfl ?_)
    refine RK.st (some 35) rfl rfl (sf_extract rfl rfl rfl ?_)
    refine RK.st (some 36) rfl rfl (sf_extract rfl rfl rfl ?_)
    refine RK.st (some 8) rfl rfl (sf_assign (v := .d (.slice ((x_9.1).map eRow))) rfl rfl ?_)
    refine RK.st (some 9) rfl rfl (sf_assign (v := .d (.val (.bool (x_9.2)))) rfl rfl ?_)
    refine RK.nil ⟨RecsOK.last 2 (by simp) (by simp) (by rfl), (nrm ?_)⟩
    refine QW.seq ?_
    refine QW.region (Nat.zero_le _) (PW.regT (by kernel_rfl) ?_)
    refine XK.st (some 38) rfl rfl (sf_move (v := .d (.slice (x_6.map eRow))) rfl rfl ?_)
    refine XK.st (some 39) rfl rfl (sf_fldC rfl TT.fldA_37_0 (by decide) rfl ?_)
    refine XK.st (some 40) rfl rfl (sf_ldC (d := .agg ((r1.fSum).1.map byteD)) rfl TT.tyA_35 rfl (ldc_Row_0 _) ?_)
    refine XK.st (some 41) rfl rfl (sf_fldC rfl TT.fldA_37_1 (by decide) rfl ?_)
    refine XK.st (some 42) rfl rfl (sf_ldC (d := .val (.int .i64 (r1.fEpoch))) rfl TT.tyA_3 rfl (ldc_Row_1 _) ?_)
    obtain ⟨x_11, hx_12, h⟩ := bO h
    refine XK.st (some 43) rfl rfl (sf_call rfl rfl TT.enters_26 rfl (sim_page_Find x_6 (r1.fSum) (r1.fEpoch) _ hx_12) ?_)
    refine XK.st (some 37) rfl rfl (sf_move (v := .d (.tuple [.val (.int .i64 (x_11.1)), .val (.bool (x_11.2))])) rfl rfl ?_)
    refine XK.st (some 44) rfl rfl (sf_extract rfl rfl rfl ?_)
    refine XK.st (some 45) rfl rfl (sf_extract rfl rfl rfl ?_)
    refine XK.st (some 10) rfl rfl (sf_assign (v := .d (.val (.int .i64 (x_11.1)))) rfl rfl ?_)
    refine XK.st (some 11) rfl rfl (sf_assign (v := .d (.val (.bool (x_11.2)))) rfl rfl ?_)
    refine XK.nil (nrm ?_)
    refine QW.seq ?_
    refine QW.view (s' := ⟨tab [(2, .d (.val (.int .i64 i2))), (4, .d (.cptr (cRow r1))), (7, .d (.slice (x_6.map eRow))), (8, .d (.slice ((x_9.1).map eRow))), (9, .d (.val (.bool (x_9.2)))), (10, .d (.val (.int .i64 (x_11.1)))), (11, .d (.val (.bool (x_11.2))))], tabH [], 0, []⟩) (View.mk 0 [] _ _ _ rfl rfl (by decide) (And.intro (Imp.of_eq rfl) (And.intro (Imp.of_eq rfl) (And.intro (Imp.of_eq rfl) (And.intro (Imp.of_eq rfl) (And.intro (Imp.of_eq rfl) (And.intro (Imp.of_eq rfl) (And.intro (Imp.of_eq rfl) trivial))))))) trivial rfl (Nat.zero_le _) rfl) (Nat.zero_le _) ?_
    refine QW.region (Nat.zero_le _) (PW.regT (by kernel_rfl) ?_)
    refine XK.st (some 46) rfl rfl (sf_move (v := .d (.slice (x_6.map eRow))) rfl rfl ?_)
    refine XK.st (some 47) rfl rfl (sf_fldC rfl TT.fldA_37_0 (by decide) rfl ?_)
    refine XK.st (some 48) rfl rfl (sf_ldC (d := .agg ((r1.fSum).1.map byteD)) rfl TT.tyA_35 rfl (ldc_Row_0 _) ?_)
    refine XK.st (some 49) rfl rfl (sf_fldC rfl TT.fldA_37_1 (by decide) rfl ?_)
    refine XK.st (some 50) rfl rfl (sf_ldC (d := .val (.int .i64 (r1.fEpoch))) rfl TT.tyA_3 rfl (ldc_Row_1 _) ?_)
    obtain ⟨x_13, hx_14, h⟩ := bO h
    refine XK.st (some 51) rfl rfl (sf_call rfl rfl TT.enters_27 rfl (sim_ref47_Find x_6 (r1.fSum) (r1.fEpoch) _ hx_14) ?_)
    refine XK.st (some 12) rfl rfl (sf_assign (v := .d (.val (.int .i64 x_13))) rfl rfl ?_)
    refine XK.nil (nrm ?_)
    refine QW.seq ?_
    refine QW.seq ?_
    refine QW.region (Nat.zero_le _) (PW.regK (id := 7) mixedX (M := _) rfl (by kernel_rfl) ?_)
    refine RK.st (some 52) rfl rfl (sf_move (v := .d (.val (.bool (x_9.2)))) rfl rfl ?_)
    refine RK.st (some 53) rfl rfl (sf_move (v := .d (.val (.int .i64 x_13))) rfl rfl ?_)
    refine RK.st (some 54) rfl rfl (sf_lss (a := x_13) (b := (0 : Int)) rfl rfl rfl ?_)
    refine RK.st (some 55) rfl rfl (sf_bne (a := x_9.2) (b := (decide (x_13 < (0 : Int)))) rfl TT.under_4 rfl rfl ?_)
    refine RK.st (some 56) rfl rfl (sf_move (v := .d (.val (.bool (!(x_9.2 == (decide (x_13 < (0 : Int)))))))) rfl rfl ?_)
    refine RK.gd (v := .d (.val (.bool (x_11.2)))) (T := []) (some 57) rfl rfl (by repeat (first | exact trivial | refine And.intro (fun hg => by first | rfl | exact hg | exact (Bool.and_eq_true_iff.mp hg).1 | exact (Bool.and_eq_true_iff.mp (Bool.and_eq_true_iff.mp hg).1).1) ?_)) (fun hg => sf_move (v := .d (.val (.bool (x_11.2)))) rfl rfl ⟨⟨rfl, rfl, rfl⟩, rfl, Imp.refl⟩) (fun _ _ hi => nomatch hi) ?_
    refine RK.gd (v := .d (.val (.int .i64 x_13))) (T := []) (some 58) rfl rfl (by repeat (first | exact trivial | refine And.intro (fun hg => by first | rfl | exact hg | exact (Bool.and_eq_true_iff.mp hg).1 | exact (Bool.and_eq_true_iff.mp (Bool.and_eq_true_iff.mp hg).1).1) ?_)) (fun hg => sf_move (v := .d (.val (.int .i64 x_13))) rfl rfl ⟨⟨rfl, rfl, rfl⟩, rfl, Imp.refl⟩) (fun _ _ hi => nomatch hi) ?_
    refine RK.gd (v := .d (.val (.bool (decide ((0 : Int) ≤ x_13))))) (T := []) (some 59) rfl rfl (by repeat (first | exact trivial | refine And.intro (fun hg => by first | rfl | exact hg | exact (Bool.and_eq_true_iff.mp hg).1 | exact (Bool.and_eq_true_iff.mp (Bool.and_eq_true_iff.mp hg).1).1) ?_)) (fun hg => sf_geq (a := x_13) (b := (0 : Int)) rfl rfl rfl ⟨⟨rfl, rfl, rfl⟩, rfl, Imp.refl⟩) (fun _ _ hi => nomatch hi) ?_
    refine RK.gd (v := .d (.val (.bool (!(x_11.2 == (decide ((0 : Int) ≤ x_13))))))) (T := []) (some 60) rfl rfl (by repeat (first | exact trivial | refine And.intro (fun hg => by first | rfl | exact hg | exact (Bool.and_eq_true_iff.mp hg).1 | exact (Bool.and_eq_true_iff.mp (Bool.and_eq_true_iff.mp hg).1).1) ?_)) (fun hg => sf_bne (a := x_11.2) (b := (decide ((0 : Int) ≤ x_13))) rfl TT.under_4 rfl rfl ⟨⟨rfl, rfl, rfl⟩, rfl, Imp.refl⟩) (fun _ _ hi => nomatch hi) ?_
    refine RK.st (some 61) rfl rfl (sf_pickO rfl rfl rfl rfl (fun _ => rfl) (fun hb => by rw [hb]; rfl) ?_)
    refine RK.st (some 62) rfl rfl (sf_move (v := .d (.val (.bool ((!(x_9.2 == (decide (x_13 < (0 : Int))))) || (!(x_11.2 == (decide ((0 : Int) ≤ x_13)))))))) rfl rfl ?_)
    refine RK.gd (v := .d (.val (.bool (x_11.2)))) (T := []) (some 63) rfl rfl (by repeat (first | exact trivial | refine And.intro (fun hg => by first | rfl | exact hg | exact (Bool.and_eq_true_iff.mp hg).1 | exact (Bool.and_eq_true_iff.mp (Bool.and_eq_true_iff.mp hg).1).1) ?_)) (fun hg => sf_move (v := .d (.val (.bool (x_11.2)))) rfl rfl ⟨⟨rfl, rfl, rfl⟩, rfl, Imp.refl⟩) (fun _ _ hi => nomatch hi) ?_
    refine RK.gd (v := .d (.val (.bool (x_11.2)))) (T := []) (some 64) rfl rfl (by repeat (first | exact trivial | refine And.intro (fun hg => by first | rfl | exact hg | exact (Bool.and_eq_true_iff.mp hg).1 | exact (Bool.and_eq_true_iff.mp (Bool.and_eq_true_iff.mp hg).1).1) ?_)) (fun hg => sf_move (v := .d (.val (.bool (x_11.2)))) rfl rfl ⟨⟨rfl, rfl, rfl⟩, rfl, Imp.refl⟩) (fun _ _ hi => nomatch hi) ?_
    refine RK.gd (v := .d (.val (.int .i64 (x_11.1)))) (T := []) (some 65) rfl rfl (by repeat (first | exact trivial | refine And.intro (fun hg => by first | rfl | exact hg | exact (Bool.and_eq_true_iff.mp hg).1 | exact (Bool.and_eq_true_iff.mp (Bool.and_eq_true_iff.mp hg).1).1) ?_)) (fun hg => sf_move (v := .d (.val (.int .i64 (x_11.1)))) rfl rfl ⟨⟨rfl, rfl, rfl⟩, rfl, Imp.refl⟩) (fun _ _ hi => nomatch hi) ?_
    refine RK.gd (v := .d (.val (.int .i64 x_13))) (T := []) (some 66) rfl rfl (by repeat (first | exact trivial | refine And.intro (fun hg => by first | rfl | exact hg | exact (Bool.and_eq_true_iff.mp hg).1 | exact (Bool.and_eq_true_iff.mp (Bool.and_eq_true_iff.mp hg).1).1) ?_)) (fun hg => sf_move (v := .d (.val (.int .i64 x_13))) rfl rfl ⟨⟨rfl, rfl, rfl⟩, rfl, Imp.refl⟩) (fun _ _ hi => nomatch hi) ?_
    refine RK.gd (v := .d (.val (.bool (!decide ((x_11.1) = x_13))))) (T := []) (some 67) rfl rfl (by repeat (first | exact trivial | refine And.intro (fun hg => by first | rfl | exact hg | exact (Bool.and_eq_true_iff.mp hg).1 | exact (Bool.and_eq_true_iff.mp (Bool.and_eq_true_iff.mp hg).1).1) ?_)) (fun hg => sf_ne (a := (x_11.1)) (b := x_13) rfl rfl rfl ⟨⟨rfl, rfl, rfl⟩, rfl, Imp.refl⟩) (fun _ _ hi => nomatch hi) ?_
    refine RK.gp (some 68) rfl rfl rfl rfl rfl rfl (fun h => h) (fun hg hb => by first | (rw [hg, hb]; rfl) | (simp only [hg, hb]; rfl) | simp_all) (fun _ _ => rfl) (x_11.2 && (!decide ((x_11.1) = x_13))) (bif_and _ _) ?_
    refine RK.st (some 69) rfl rfl (sf_pickO rfl rfl rfl rfl (fun _ => rfl) (fun hb => by rw [hb]; rfl) ?_)
    refine RK.st (some 70) rfl rfl (sf_move (v := .d (.val (.bool (((!(x_9.2 == (decide (x_13 < (0 : Int))))) || (!(x_11.2 == (decide ((0 : Int) ≤ x_13))))) || (x_11.2 && (!decide ((x_11.1) = x_13))))))) rfl rfl ?_)
    refine RK.gd (v := .d (.slice ((x_9.1).map eRow))) (T := []) (some 71) rfl rfl (by repeat (first | exact trivial | refine And.intro (fun hg => by first | rfl | exact hg | exact (Bool.and_eq_true_iff.mp hg).1 | exact (Bool.and_eq_true_iff.mp (Bool.and_eq_true_iff.mp hg).1).1) ?_)) (fun hg => sf_move (v := .d (.slice ((x_9.1).map eRow))) rfl rfl ⟨⟨rfl, rfl, rfl⟩, rfl, Imp.refl⟩) (fun _ _ hi => nomatch hi) ?_
    refine RK.gd (v := .full (([] : List Row).map eRow)) (T := []) (some 72) rfl rfl (by repeat (first | exact trivial | refine And.intro (fun hg => by first | rfl | exact hg | exact (Bool.and_eq_true_iff.mp hg).1 | exact (Bool.and_eq_true_iff.mp (Bool.and_eq_true_iff.mp hg).1).1) ?_)) (fun hg => sf_row (en := eRow) (l := ([] : List Row)) rfl TT.rowA_22 lay_Row (by first | rfl | (simp only [List.map_cons, List.map_nil, eRow_eq]; rfl)) rfl (by decide) (by simp [solids, partsP, evP, ofVal, PV.solid, putS_at, tab, unS, unT, unC, asCond, Value.oneCell']) ⟨⟨rfl, rfl, rfl⟩, rfl, Imp.refl⟩) (fun _ _ hi => nomatch hi) ?_
    refine RK.gd (v := .d (.slice (x_6.map eRow))) (T := []) (some 73) rfl rfl (by repeat (first | exact trivial | refine And.intro (fun hg => by first | rfl | exact hg | exact (Bool.and_eq_true_iff.mp hg).1 | exact (Bool.and_eq_true_iff.mp (Bool.and_eq_true_iff.mp hg).1).1) ?_)) (fun hg => sf_move (v := .d (.slice (x_6.map eRow))) rfl rfl ⟨⟨rfl, rfl, rfl⟩, rfl, Imp.refl⟩) (fun _ _ hi => nomatch hi) ?_
    refine RK.sp (b := (((!(x_9.2 == (decide (x_13 < (0 : Int))))) || (!(x_11.2 == (decide ((0 : Int) ≤ x_13))))) || (x_11.2 && (!decide ((x_11.1) = x_13))))) [(69, .d (.val (.bool true))), (70, .d (.val (.bool true))), (71, .cond false (.d (.slice ((x_9.1).map eRow)))), (72, .cond false (.full (([] : List Row).map eRow))), (73, .cond false (.d (.slice (x_6.map eRow))))] [(69, .d (.val (.bool false))), (70, .d (.val (.bool false))), (71, .cond true (.d (.slice ((x_9.1).map eRow)))), (72, .cond true (.full (([] : List Row).map eRow))), (73, .cond true (.d (.slice (x_6.map eRow))))] (fun hb => And.intro (congrArg (fun b => PV.d (.val (.bool b))) hb) (And.intro (congrArg (fun b => PV.d (.val (.bool b))) hb) (And.intro (congrArg (fun b => PV.cond (b == false) (.d (.slice ((x_9.1).map eRow)))) hb) (And.intro (congrArg (fun b => PV.cond (b == false) (.full (([] : List Row).map eRow))) hb) (And.intro (congrArg (fun b => PV.cond (b == false) (.d (.slice (x_6.map eRow)))) hb) trivial))))) (fun hb => And.intro (congrArg (fun b => PV.d (.val (.bool b))) hb) (And.intro (congrArg (fun b => PV.d (.val (.bool b))) hb) (And.intro (congrArg (fun b => PV.cond (b == false) (.d (.slice ((x_9.1).map eRow)))) hb) (And.intro (congrArg (fun b => PV.cond (b == false) (.full (([] : List Row).map eRow))) hb) (And.intro (congrArg (fun b => PV.cond (b == false) (.d (.slice (x_6.map eRow)))) hb) trivial))))) (fun hb_15 => ?_) (fun hb_15 => ?_)
    · replace h := bT h hb_15
      refine RK.of (some 74) rfl rfl ?_
      refine RK.of (some 75) rfl rfl ?_
      refine RK.of (some 76) rfl rfl ?_
      refine RK.of (some 77) rfl rfl ?_
      refine RK.of (some 78) rfl rfl ?_
      refine RK.of (some 79) rfl rfl ?_
      refine RK.of (some 80) rfl rfl ?_
      refine RK.st (some 81) rfl rfl (sf_pickT rfl rfl rfl rfl rfl rfl ?_)
      refine RK.nil ⟨RecsOK.quiet (by simp), (nrm ?_)⟩
      refine QW.condT rfl ?_
      refine QW.seq ?_
      refine QW.view (s' := ⟨tab [], tabH [], 0, []⟩) (View.mk 0 [] _ _ _ rfl rfl (by decide) trivial trivial rfl (Nat.zero_le _) rfl) (Nat.zero_le _) ?_
      refine QW.region (Nat.zero_le _) (PW.regT (by kernel_rfl) ?_)
      refine XK.st (some 6) rfl rfl (sf_assign (v := .d (.val (.bool false))) rfl rfl ?_)
      refine XK.nil (nrm ?_)
      refine QW.ret (Nat.zero_le _) (thR ?_)
      obtain rfl := sO h
      exact Ends.one (.inr rfl) rfl (ResIs.tmp rfl) rfl rfl
    · replace h := bF h hb_15
      obtain ⟨c_16, h⟩ := gO_get h
      refine RK.onF (some 74) rfl rfl (sf_appF (en := eRow) (l := ([] : List Row)) (l2 := x_6) rfl TT.rowA_22 TT.under_22 rfl lay_Row rfl rfl ⟨c_16, fun _ => rfl⟩ (by decide) ?_)
      refine RK.oa (v := .d (.agg (cRow r1))) (T := []) (some 75) rfl rfl (sf_ldC (d := .agg (cRow r1)) rfl TT.tyA_37 rfl (⟨by rw [lay_Row.len]; decide, congrArg D.agg (List.take_of_length_le (by rw [lay_Row.len]; decide))⟩) ⟨⟨rfl, rfl, rfl⟩, rfl, Imp.refl⟩) ?_
      refine RK.oa (v := .full (([r1] : List Row).map eRow)) (T := []) (some 76) rfl rfl (sf_row (en := eRow) (l := ([r1] : List Row)) rfl TT.rowA_22 lay_Row (by first | rfl | (simp only [List.map_cons, List.map_nil, eRow_eq]; rfl)) rfl (by decide) (by simp [solids, partsP, evP, ofVal, PV.solid, putS_at, tab, unS, unT, unC, asCond, Value.oneCell']) ⟨⟨rfl, rfl, rfl⟩, rfl, Imp.refl⟩) ?_
      obtain ⟨c_17, h⟩ := gO_get h
      refine RK.onF (some 77) rfl rfl (sf_appO (en := eRow) (l := (([] : List Row) ++ x_6)) (l2 := ([r1] : List Row)) rfl TT.rowA_22 TT.under_22 rfl lay_Row rfl rfl rfl c_17 (by decide) ?_)
      obtain ⟨x_18, hx_19, h⟩ := bO h
      refine RK.oa (v := .d (.slice (x_18.map eRow))) (T := []) (some 78) rfl rfl (sf_call rfl rfl TT.enters_24 rfl (sim_ref47_Sort ((([] : List Row) ++ x_6) ++ ([r1] : List Row)) _ hx_19) ⟨⟨rfl, rfl, rfl⟩, rfl, Imp.refl⟩) ?_
      obtain ⟨x_20, hx_21, h⟩ := bO h
      refine RK.oa (v := .d (.val (.bool x_20))) (T := []) (some 79) rfl rfl (sf_call rfl rfl TT.enters_21 rfl (sim_ref47_Same (x_9.1) x_18 _ hx_21) ⟨⟨rfl, rfl, rfl⟩, rfl, Imp.refl⟩) ?_
      refine RK.oa (v := .d (.val (.bool (!x_20)))) (T := []) (some 80) rfl rfl (sf_not rfl rfl ⟨⟨rfl, rfl, rfl⟩, rfl, Imp.refl⟩) ?_
      refine RK.st (some 81) rfl rfl (sf_pickF rfl rfl rfl rfl rfl rfl ?_)
      refine RK.nil ⟨RecsOK.comp (by rfl), (nrm ?_)⟩
      refine QW.cond (t := (!x_20)) rfl (Nat.zero_le _) (fun hb_22 => ?_) (fun hb_22 => ?_)
      · replace h := bT h hb_22
        refine QW.seq ?_
        refine QW.region (Nat.zero_le _) (PW.regT (by kernel_rfl) ?_)
        refine XK.st (some 6) rfl rfl (sf_assign (v := .d (.val (.bool false))) rfl rfl ?_)
        refine XK.nil (nrm ?_)
        refine QW.ret (Nat.zero_le _) (thR ?_)
        obtain rfl := sO h
        exact Ends.one (.inr rfl) rfl (ResIs.tmp rfl) rfl rfl
      · replace h := bF h hb_22
        refine QW.skip (Nat.zero_le _) (nrm ?_)
        refine QW.seq ?_
        refine QW.seq ?_
        refine QW.region (Nat.zero_le _) (PW.regQ (id := 9) mixedX (M := _) rfl (by kernel_rfl) ?_)
        refine RQ.st (some 82) rfl rfl (sf_move (v := .d (.val (.bool (x_11.2)))) rfl rfl ⟨⟨rfl, rfl⟩, ?_⟩)
        refine RQ.st (some 83) rfl rfl (sf_not rfl rfl ⟨⟨rfl, rfl⟩, ?_⟩)
        refine RQ.st (some 84) rfl rfl (sf_move (v := .d (.val (.bool (!(x_11).2)))) rfl rfl ⟨⟨rfl, rfl⟩, ?_⟩)
        refine RQ.gd (v := .d (.val (.int .i64 (x_11.1)))) (T := []) (some 85) rfl rfl (by repeat (first | exact trivial | refine And.intro (fun hg => by first | rfl | exact hg | exact (Bool.and_eq_true_iff.mp hg).1 | exact (Bool.and_eq_true_iff.mp (Bool.and_eq_true_iff.mp hg).1).1) ?_)) (fun hg => sf_move (v := .d (.val (.int .i64 (x_11.1)))) rfl rfl ⟨⟨rfl, rfl, rfl⟩, rfl, Imp.refl⟩) (fun _ _ hi => nomatch hi) ?_
        refine RQ.gd (v := .d (.val (.bool (decide ((x_11.1) < (0 : Int)))))) (T := []) (some 86) rfl rfl (by repeat (first | exact trivial | refine And.intro (fun hg => by first | rfl | exact hg | exact (Bool.and_eq_true_iff.mp hg).1 | exact (Bool.and_eq_true_iff.mp (Bool.and_eq_true_iff.mp hg).1).1) ?_)) (fun hg => sf_lss (a := (x_11.1)) (b := (0 : Int)) rfl rfl rfl ⟨⟨rfl, rfl, rfl⟩, rfl, Imp.refl⟩) (fun _ _ hi => nomatch hi) ?_
        refine RQ.gd (v := .d (.val (.bool (decide ((x_11.1) < (0 : Int)))))) (T := []) (some 87) rfl rfl (by repeat (first | exact trivial | refine And.intro (fun hg => by first | rfl | exact hg | exact (Bool.and_eq_true_iff.mp hg).1 | exact (Bool.and_eq_true_iff.mp (Bool.and_eq_true_iff.mp hg).1).1) ?_)) (fun hg => sf_move (v := .d (.val (.bool (decide ((x_11.1) < (0 : Int)))))) rfl rfl ⟨⟨rfl, rfl, rfl⟩, rfl, Imp.refl⟩) (fun _ _ hi => nomatch hi) ?_
        refine RQ.gd (v := .d (.val (.int .i64 (x_11.1)))) (T := []) (some 88) rfl rfl (by repeat (first | exact trivial | refine And.intro (fun hg => by first | rfl | exact hg | exact (Bool.and_eq_true_iff.mp hg).1 | exact (Bool.and_eq_true_iff.mp (Bool.and_eq_true_iff.mp hg).1).1) ?_)) (fun hg => sf_move (v := .d (.val (.int .i64 (x_11.1)))) rfl rfl ⟨⟨rfl, rfl, rfl⟩, rfl, Imp.refl⟩) (fun _ _ hi => nomatch hi) ?_
        refine RQ.gd (v := .d (.slice (x_6.map eRow))) (T := []) (some 89) rfl rfl (by repeat (first | exact trivial | refine And.intro (fun hg => by first | rfl | exact hg | exact (Bool.and_eq_true_iff.mp hg).1 | exact (Bool.and_eq_true_iff.mp (Bool.and_eq_true_iff.mp hg).1).1) ?_)) (fun hg => sf_move (v := .d (.slice (x_6.map eRow))) rfl rfl ⟨⟨rfl, rfl, rfl⟩, rfl, Imp.refl⟩) (fun _ _ hi => nomatch hi) ?_
        refine RQ.gd (v := .d (.val (.int .i64 (x_6.length : Int)))) (T := []) (some 90) rfl rfl (by repeat (first | exact trivial | refine And.intro (fun hg => by first | rfl | exact hg | exact (Bool.and_eq_true_iff.mp hg).1 | exact (Bool.and_eq_true_iff.mp (Bool.and_eq_true_iff.mp hg).1).1) ?_)) (fun hg => sf_lenL (en := eRow) (l := x_6) rfl TT.under_22 rfl ⟨⟨rfl, rfl, rfl⟩, rfl, Imp.refl⟩) (fun _ _ hi => nomatch hi) ?_
        refine RQ.gd (v := .d (.val (.bool (decide ((x_6.length : Int) < (x_11.1)))))) (T := []) (some 91) rfl rfl (by repeat (first | exact trivial | refine And.intro (fun hg => by first | rfl | exact hg | exact (Bool.and_eq_true_iff.mp hg).1 | exact (Bool.and_eq_true_iff.mp (Bool.and_eq_true_iff.mp hg).1).1) ?_)) (fun hg => sf_gtr (a := (x_11.1)) (b := (x_6.length : Int)) rfl rfl rfl ⟨⟨rfl, rfl, rfl⟩, rfl, Imp.refl⟩) (fun _ _ hi => nomatch hi) ?_
        refine RQ.gp (some 92) rfl rfl rfl rfl rfl rfl (fun h => h) (fun _ _ => rfl) (fun hg hb => by first | (rw [hg, hb]; rfl) | (simp only [hg, hb]; rfl) | simp_all) ((decide ((x_11.1) < (0 : Int))) || (decide ((x_6.length : Int) < (x_11.1)))) (bif_or _ _) ?_
        refine RQ.gd (v := .d (.val (.bool ((decide ((x_11.1) < (0 : Int))) || (decide ((x_6.length : Int) < (x_11.1))))))) (T := []) (some 93) rfl rfl (by repeat (first | exact trivial | refine And.intro (fun hg => by first | rfl | exact hg | exact (Bool.and_eq_true_iff.mp hg).1 | exact (Bool.and_eq_true_iff.mp (Bool.and_eq_true_iff.mp hg).1).1) ?_)) (fun hg => sf_move (v := .d (.val (.bool ((decide ((x_11.1) < (0 : Int))) || (decide ((x_6.length : Int) < (x_11.1))))))) rfl rfl ⟨⟨rfl, rfl, rfl⟩, rfl, Imp.refl⟩) (fun _ _ hi => nomatch hi) ?_
        refine RQ.gd (v := .d (.val (.int .i64 (x_11.1)))) (T := []) (some 94) rfl rfl (by repeat (first | exact trivial | refine And.intro (fun hg => by first | rfl | exact hg | exact (Bool.and_eq_true_iff.mp hg).1 | exact (Bool.and_eq_true_iff.mp (Bool.and_eq_true_iff.mp hg).1).1) ?_)) (fun hg => sf_move (v := .d (.val (.int .i64 (x_11.1)))) rfl rfl ⟨⟨rfl, rfl, rfl⟩, rfl, Imp.refl⟩) (fun _ _ hi => nomatch hi) ?_
        refine RQ.gd (v := .d (.val (.bool (decide ((0 : Int) < (x_11.1)))))) (T := []) (some 95) rfl rfl (by repeat (first | exact trivial | refine And.intro (fun hg => by first | rfl | exact hg | exact (Bool.and_eq_true_iff.mp hg).1 | exact (Bool.and_eq_true_iff.mp (Bool.and_eq_true_iff.mp hg).1).1) ?_)) (fun hg => sf_gtr (a := (x_11.1)) (b := (0 : Int)) rfl rfl rfl ⟨⟨rfl, rfl, rfl⟩, rfl, Imp.refl⟩) (fun _ _ hi => nomatch hi) ?_
        refine RQ.gd (v := .d (.val (.bool (decide ((0 : Int) < (x_11.1)))))) (T := []) (some 96) rfl rfl (by repeat (first | exact trivial | refine And.intro (fun hg => by first | rfl | exact hg | exact (Bool.and_eq_true_iff.mp hg).1 | exact (Bool.and_eq_true_iff.mp (Bool.and_eq_true_iff.mp hg).1).1) ?_)) (fun hg => sf_move (v := .d (.val (.bool (decide ((0 : Int) < (x_11.1)))))) rfl rfl ⟨⟨rfl, rfl, rfl⟩, rfl, Imp.refl⟩) (fun _ _ hi => nomatch hi) ?_
        refine RQ.gd (v := .d (.slice (x_6.map eRow))) (T := []) (some 97) rfl rfl (by repeat (first | exact trivial | refine And.intro (fun hg => by first | rfl | exact hg | exact (Bool.and_eq_true_iff.mp hg).1 | exact (Bool.and_eq_true_iff.mp (Bool.and_eq_true_iff.mp hg).1).1) ?_)) (fun hg => sf_move (v := .d (.slice (x_6.map eRow))) rfl rfl ⟨⟨rfl, rfl, rfl⟩, rfl, Imp.refl⟩) (fun _ _ hi => nomatch hi) ?_
        refine RQ.gd (v := .d (.val (.int .i64 (x_11.1)))) (T := []) (some 98) rfl rfl (by repeat (first | exact trivial | refine And.intro (fun hg => by first | rfl | exact hg | exact (Bool.and_eq_true_iff.mp hg).1 | exact (Bool.and_eq_true_iff.mp (Bool.and_eq_true_iff.mp hg).1).1) ?_)) (fun hg => sf_move (v := .d (.val (.int .i64 (x_11.1)))) rfl rfl ⟨⟨rfl, rfl, rfl⟩, rfl, Imp.refl⟩) (fun _ _ hi => nomatch hi) ?_
        obtain ⟨c_23, h⟩ := gO_get h
        refine RQ.gd (v := .d (.val (.int .i64 ((x_11.1) - (1 : Int))))) (T := []) (some 99) rfl rfl (by repeat (first | exact trivial | refine And.intro (fun hg => by first | rfl | exact hg | exact (Bool.and_eq_true_iff.mp hg).1 | exact (Bool.and_eq_true_iff.mp (Bool.and_eq_true_iff.mp hg).1).1) ?_)) (fun hg => sf_sub (a := (x_11.1)) (b := (1 : Int)) rfl rfl rfl (c_23 hg) ⟨⟨rfl, rfl, rfl⟩, rfl, Imp.refl⟩) (fun _ _ hi => nomatch hi) ?_
        obtain ⟨c_24, h⟩ := gO_get h
        refine RQ.gd (v := .d (.cptr (cRow (idx x_6 ((x_11.1) - (1 : Int)))))) (T := []) (some 100) rfl rfl (by repeat (first | exact trivial | refine And.intro (fun hg => by first | rfl | exact hg | exact (Bool.and_eq_true_iff.mp hg).1 | exact (Bool.and_eq_true_iff.mp (Bool.and_eq_true_iff.mp hg).1).1) ?_)) (fun hg => sf_idxA (l := x_6) (i := ((x_11.1) - (1 : Int))) rfl TT.slcA_22 lay_Row rfl rfl (c_24 hg) ⟨⟨rfl, rfl, rfl⟩, rfl, Imp.refl⟩) (fun _ _ hi => nomatch hi) ?_
        refine RQ.gd (v := .d (.agg (cRow (idx x_6 ((x_11.1) - (1 : Int)))))) (T := []) (some 101) rfl rfl (by repeat (first | exact trivial | refine And.intro (fun hg => by first | rfl | exact hg | exact (Bool.and_eq_true_iff.mp hg).1 | exact (Bool.and_eq_true_iff.mp (Bool.and_eq_true_iff.mp hg).1).1) ?_)) (fun hg => sf_ldC (d := .agg (cRow (idx x_6 ((x_11.1) - (1 : Int))))) rfl TT.tyA_37 rfl (⟨by rw [lay_Row.len]; decide, congrArg D.agg (List.take_of_length_le (by rw [lay_Row.len]; decide))⟩) ⟨⟨rfl, rfl, rfl⟩, rfl, Imp.refl⟩) (fun _ _ hi => nomatch hi) ?_
        refine RQ.gd (v := .d (.agg (cRow r1))) (T := []) (some 102) rfl rfl (by repeat (first | exact trivial | refine And.intro (fun hg => by first | rfl | exact hg | exact (Bool.and_eq_true_iff.mp hg).1 | exact (Bool.and_eq_true_iff.mp (Bool.and_eq_true_iff.mp hg).1).1) ?_)) (fun hg => sf_ldC (d := .agg (cRow r1)) rfl TT.tyA_37 rfl (⟨by rw [lay_Row.len]; decide, congrArg D.agg (List.take_of_length_le (by rw [lay_Row.len]; decide))⟩) ⟨⟨rfl, rfl, rfl⟩, rfl, Imp.refl⟩) (fun _ _ hi => nomatch hi) ?_
        obtain ⟨x_25, hx_26, h⟩ := bO h
        refine RQ.gd (v := .d (.val (.bool x_25))) (T := []) (some 103) rfl rfl (by repeat (first | exact trivial | refine And.intro (fun hg => by first | rfl | exact hg | exact (Bool.and_eq_true_iff.mp hg).1 | exact (Bool.and_eq_true_iff.mp (Bool.and_eq_true_iff.mp hg).1).1) ?_)) (fun hg => sf_call rfl rfl TT.enters_28 rfl (sim_ref47_Less (idx x_6 ((x_11.1) - (1 : Int))) r1 _ (bT hx_26 hg)) ⟨⟨rfl, rfl, rfl⟩, rfl, Imp.refl⟩) (fun _ _ hi => nomatch hi) ?_
        refine RQ.gd (v := .d (.val (.bool (!x_25)))) (T := []) (some 104) rfl rfl (by repeat (first | exact trivial | refine And.intro (fun hg => by first | rfl | exact hg | exact (Bool.and_eq_true_iff.mp hg).1 | exact (Bool.and_eq_true_iff.mp (Bool.and_eq_true_iff.mp hg).1).1) ?_)) (fun hg => sf_not rfl rfl ⟨⟨rfl, rfl, rfl⟩, rfl, Imp.refl⟩) (fun _ _ hi => nomatch hi) ?_
        refine RQ.gp (some 105) rfl rfl rfl rfl rfl rfl (fun h => h) (fun hg hb => by first | (rw [hg, hb]; rfl) | (simp only [hg, hb]; rfl) | simp_all) (fun _ _ => rfl) ((decide ((0 : Int) < (x_11.1))) && (!x_25)) (bif_and _ _) ?_
        refine RQ.gp (some 106) rfl rfl rfl rfl rfl rfl (fun h => h) (fun _ _ => rfl) (fun hg hb => by first | (rw [hg, hb]; rfl) | (simp only [hg, hb]; rfl) | simp_all) (((decide ((x_11.1) < (0 : Int))) || (decide ((x_6.length : Int) < (x_11.1)))) || ((decide ((0 : Int) < (x_11.1))) && (!x_25))) (bif_or _ _) ?_
        refine RQ.gd (v := .d (.val (.bool (((decide ((x_11.1) < (0 : Int))) || (decide ((x_6.length : Int) < (x_11.1)))) || ((decide ((0 : Int) < (x_11.1))) && (!x_25)))))) (T := []) (some 107) rfl rfl (by repeat (first | exact trivial | refine And.intro (fun hg => by first | rfl | exact hg | exact (Bool.and_eq_true_iff.mp hg).1 | exact (Bool.and_eq_true_iff.mp (Bool.and_eq_true_iff.mp hg).1).1) ?_)) (fun hg => sf_move (v := .d (.val (.bool (((decide ((x_11.1) < (0 : Int))) || (decide ((x_6.length : Int) < (x_11.1)))) || ((decide ((0 : Int) < (x_11.1))) && (!x_25)))))) rfl rfl ⟨⟨rfl, rfl, rfl⟩, rfl, Imp.refl⟩) (fun _ _ hi => nomatch hi) ?_
        refine RQ.gd (v := .d (.val (.int .i64 (x_11.1)))) (T := []) (some 108) rfl rfl (by repeat (first | exact trivial | refine And.intro (fun hg => by first | rfl | exact hg | exact (Bool.and_eq_true_iff.mp hg).1 | exact (Bool.and_eq_true_iff.mp (Bool.and_eq_true_iff.mp hg).1).1) ?_)) (fun hg => sf_move (v := .d (.val (.int .i64 (x_11.1)))) rfl rfl ⟨⟨rfl, rfl, rfl⟩, rfl, Imp.refl⟩) (fun _ _ hi => nomatch hi) ?_
        refine RQ.gd (v := .d (.slice (x_6.map eRow))) (T := []) (some 109) rfl rfl (by repeat (first | exact trivial | refine And.intro (fun hg => by first | rfl | exact hg | exact (Bool.and_eq_true_iff.mp hg).1 | exact (Bool.and_eq_true_iff.mp (Bool.and_eq_true_iff.mp hg).1).1) ?_)) (fun hg => sf_move (v := .d (.slice (x_6.map eRow))) rfl rfl ⟨⟨rfl, rfl, rfl⟩, rfl, Imp.refl⟩) (fun _ _ hi => nomatch hi) ?_
        refine RQ.gd (v := .d (.val (.int .i64 (x_6.length : Int)))) (T := []) (some 110) rfl rfl (by repeat (first | exact trivial | refine And.intro (fun hg => by first | rfl | exact hg | exact (Bool.and_eq_true_iff.mp hg).1 | exact (Bool.and_eq_true_iff.mp (Bool.and_eq_true_iff.mp hg).1).1) ?_)) (fun hg => sf_lenL (en := eRow) (l := x_6) rfl TT.under_22 rfl ⟨⟨rfl, rfl, rfl⟩, rfl, Imp.refl⟩) (fun _ _ hi => nomatch hi) ?_
        refine RQ.gd (v := .d (.val (.bool (decide ((x_11.1) < (x_6.length : Int)))))) (T := []) (some 111) rfl rfl (by repeat (first | exact trivial | refine And.intro (fun hg => by first | rfl | exact hg | exact (Bool.and_eq_true_iff.mp hg).1 | exact (Bool.and_eq_true_iff.mp (Bool.and_eq_true_iff.mp hg).1).1) ?_)) (fun hg => sf_lss (a := (x_11.1)) (b := (x_6.length : Int)) rfl rfl rfl ⟨⟨rfl, rfl, rfl⟩, rfl, Imp.refl⟩) (fun _ _ hi => nomatch hi) ?_
        refine RQ.gd (v := .d (.val (.bool (decide ((x_11.1) < (x_6.length : Int)))))) (T := []) (some 112) rfl rfl (by repeat (first | exact trivial | refine And.intro (fun hg => by first | rfl | exact hg | exact (Bool.and_eq_true_iff.mp hg).1 | exact (Bool.and_eq_true_iff.mp (Bool.and_eq_true_iff.mp hg).1).1) ?_)) (fun hg => sf_move (v := .d (.val (.bool (decide ((x_11.1) < (x_6.length : Int)))))) rfl rfl ⟨⟨rfl, rfl, rfl⟩, rfl, Imp.refl⟩) (fun _ _ hi => nomatch hi) ?_
        refine RQ.gd (v := .d (.agg (cRow r1))) (T := []) (some 113) rfl rfl (by repeat (first | exact trivial | refine And.intro (fun hg => by first | rfl | exact hg | exact (Bool.and_eq_true_iff.mp hg).1 | exact (Bool.and_eq_true_iff.mp (Bool.and_eq_true_iff.mp hg).1).1) ?_)) (fun hg => sf_ldC (d := .agg (cRow r1)) rfl TT.tyA_37 rfl (⟨by rw [lay_Row.len]; decide, congrArg D.agg (List.take_of_length_le (by rw [lay_Row.len]; decide))⟩) ⟨⟨rfl, rfl, rfl⟩, rfl, Imp.refl⟩) (fun _ _ hi => nomatch hi) ?_
        refine RQ.gd (v := .d (.slice (x_6.map eRow))) (T := []) (some 114) rfl rfl (by repeat (first | exact trivial | refine And.intro (fun hg => by first | rfl | exact hg | exact (Bool.and_eq_true_iff.mp hg).1 | exact (Bool.and_eq_true_iff.mp (Bool.and_eq_true_iff.mp hg).1).1) ?_)) (fun hg => sf_move (v := .d (.slice (x_6.map eRow))) rfl rfl ⟨⟨rfl, rfl, rfl⟩, rfl, Imp.refl⟩) (fun _ _ hi => nomatch hi) ?_
        refine RQ.gd (v := .d (.val (.int .i64 (x_11.1)))) (T := []) (some 115) rfl rfl (by repeat (first | exact trivial | refine And.intro (fun hg => by first | rfl | exact hg | exact (Bool.and_eq_true_iff.mp hg).1 | exact (Bool.and_eq_true_iff.mp (Bool.and_eq_true_iff.mp hg).1).1) ?_)) (fun hg => sf_move (v := .d (.val (.int .i64 (x_11.1)))) rfl rfl ⟨⟨rfl, rfl, rfl⟩, rfl, Imp.refl⟩) (fun _ _ hi => nomatch hi) ?_
        obtain ⟨c_27, h⟩ := gO_get h
        refine RQ.gd (v := .d (.cptr (cRow (idx x_6 (x_11.1))))) (T := []) (some 116) rfl rfl (by repeat (first | exact trivial | refine And.intro (fun hg => by first | rfl | exact hg | exact (Bool.and_eq_true_iff.mp hg).1 | exact (Bool.and_eq_true_iff.mp (Bool.and_eq_true_iff.mp hg).1).1) ?_)) (fun hg => sf_idxA (l := x_6) (i := (x_11.1)) rfl TT.slcA_22 lay_Row rfl rfl (c_27 hg) ⟨⟨rfl, rfl, rfl⟩, rfl, Imp.refl⟩) (fun _ _ hi => nomatch hi) ?_
        refine RQ.gd (v := .d (.agg (cRow (idx x_6 (x_11.1))))) (T := []) (some 117) rfl rfl (by repeat (first | exact trivial | refine And.intro (fun hg => by first | rfl | exact hg | exact (Bool.and_eq_true_iff.mp hg).1 | exact (Bool.and_eq_true_iff.mp (Bool.and_eq_true_iff.mp hg).1).1) ?_)) (fun hg => sf_ldC (d := .agg (cRow (idx x_6 (x_11.1)))) rfl TT.tyA_37 rfl (⟨by rw [lay_Row.len]; decide, congrArg D.agg (List.take_of_length_le (by rw [lay_Row.len]; decide))⟩) ⟨⟨rfl, rfl, rfl⟩, rfl, Imp.refl⟩) (fun _ _ hi => nomatch hi) ?_
        obtain ⟨x_28, hx_29, h⟩ := bO h
        refine RQ.gd (v := .d (.val (.bool x_28))) (T := []) (some 118) rfl rfl (by repeat (first | exact trivial | refine And.intro (fun hg => by first | rfl | exact hg | exact (Bool.and_eq_true_iff.mp hg).1 | exact (Bool.and_eq_true_iff.mp (Bool.and_eq_true_iff.mp hg).1).1) ?_)) (fun hg => sf_call rfl rfl TT.enters_28 rfl (sim_ref47_Less r1 (idx x_6 (x_11.1)) _ (bT hx_29 hg)) ⟨⟨rfl, rfl, rfl⟩, rfl, Imp.refl⟩) (fun _ _ hi => nomatch hi) ?_
        refine RQ.gd (v := .d (.val (.bool (!x_28)))) (T := []) (some 119) rfl rfl (by repeat (first | exact trivial | refine And.intro (fun hg => by first | rfl | exact hg | exact (Bool.and_eq_true_iff.mp hg).1 | exact (Bool.and_eq_true_iff.mp (Bool.and_eq_true_iff.mp hg).1).1) ?_)) (fun hg => sf_not rfl rfl ⟨⟨rfl, rfl, rfl⟩, rfl, Imp.refl⟩) (fun _ _ hi => nomatch hi) ?_
        refine RQ.gp (some 120) rfl rfl rfl rfl rfl rfl (fun h => h) (fun hg hb => by first | (rw [hg, hb]; rfl) | (simp only [hg, hb]; rfl) | simp_all) (fun _ _ => rfl) ((decide ((x_11.1) < (x_6.length : Int))) && (!x_28)) (bif_and _ _) ?_
        refine RQ.gp (some 121) rfl rfl rfl rfl rfl rfl (fun h => h) (fun _ _ => rfl) (fun hg hb => by first | (rw [hg, hb]; rfl) | (simp only [hg, hb]; rfl) | simp_all) ((((decide ((x_11.1) < (0 : Int))) || (decide ((x_6.length : Int) < (x_11.1)))) || ((decide ((0 : Int) < (x_11.1))) && (!x_25))) || ((decide ((x_11.1) < (x_6.length : Int))) && (!x_28))) (bif_or _ _) ?_
        refine RQ.st (some 122) rfl rfl (sf_pickA rfl rfl rfl rfl (fun hb => by rw [hb]; rfl) (fun _ => rfl) ⟨⟨rfl, rfl⟩, ?_⟩)
        refine RQ.nil (nrm ?_)
        refine QW.cond (t := ((!(x_11).2) && ((((decide ((x_11.1) < (0 : Int))) || (decide ((x_6.length : Int) < (x_11.1)))) || ((decide ((0 : Int) < (x_11.1))) && (!x_25))) || ((decide ((x_11.1) < (x_6.length : Int))) && (!x_28))))) rfl (Nat.zero_le _) (fun hb_30 => ?_) (fun hb_30 => ?_)
        · replace h := bT h hb_30
          refine QW.seq ?_
          refine QW.region (Nat.zero_le _) (PW.regT (by kernel_rfl) ?_)
          refine XK.st (some 6) rfl rfl (sf_assign (v := .d (.val (.bool false))) rfl rfl ?_)
          refine XK.nil (nrm ?_)
          refine QW.ret (Nat.zero_le _) (thR ?_)
          obtain rfl := sO h
          exact Ends.one (.inr rfl) rfl (ResIs.tmp rfl) rfl rfl
        · replace h := bF h hb_30
          refine QW.skip (Nat.zero_le _) (nrm ?_)
          refine QW.seq ?_
          refine QW.region (Nat.zero_le _) (PW.regT (by kernel_rfl) ?_)
          refine XK.st (some 123) rfl rfl (sf_row (en := eRow) (l := ([] : List Row)) rfl TT.rowA_22 lay_Row (by first | rfl | (simp only [List.map_cons, List.map_nil, eRow_eq]; rfl)) rfl (by decide) (by simp [solids, partsP, evP, ofVal, PV.solid, putS_at, tab, unS, unT, unC, asCond, Value.oneCell']) ?_)
          refine XK.st (some 124) rfl rfl (sf_move (v := .d (.slice (x_6.map eRow))) rfl rfl ?_)
          obtain ⟨c_31, h⟩ := gO_get h
          refine XK.st (some 125) rfl rfl (sf_appF (en := eRow) (l := ([] : List Row)) (l2 := x_6) rfl TT.rowA_22 TT.under_22 rfl lay_Row rfl rfl ⟨c_31, fun _ => rfl⟩ (by decide) ?_)
          refine XK.st (some 126) rfl rfl (sf_move (v := .d (.val (.int .i64 i2))) rfl rfl ?_)
          obtain ⟨x_32, hx_33, h⟩ := bO h
          refine XK.st (some 127) rfl rfl (sf_call rfl rfl TT.enters_29 rfl (sim_page_Remove (([] : List Row) ++ x_6) i2 _ hx_33) ?_)
          refine XK.st (some 13) rfl rfl (sf_assign (v := .d (.slice (x_32.map eRow))) rfl rfl ?_)
          refine XK.nil (nrm ?_)
          refine QW.seq ?_
          refine QW.region (Nat.zero_le _) (PW.regT (by kernel_rfl) ?_)
          refine XK.st (some 128) rfl rfl (sf_move (v := .d (.slice (x_6.map eRow))) rfl rfl ?_)
          refine XK.st (some 14) rfl rfl (sf_assign (v := .d (.slice (x_6.map eRow))) rfl rfl ?_)
          refine XK.nil (nrm ?_)
          obtain ⟨v14, hq, h⟩ := bO h
          refine QW.seqI (fun s' => s' = ⟨tab [(7, .d (.slice (x_6.map eRow))), (13, .d (.slice (x_32.map eRow))), (14, .d (.slice (v14.map eRow)))], tabH [], 0, []⟩) ?_ ?_
          · replace h := hq; clear hq
            refine QW.seq ?_
            refine QW.region (Nat.zero_le _) (PW.regT (by kernel_rfl) ?_)
            refine XK.st (some 129) rfl rfl (sf_move (v := .d (.val (.int .i64 i2))) rfl rfl ?_)
            refine XK.st (some 130) rfl rfl (sf_geq (a := i2) (b := (0 : Int)) rfl rfl rfl ?_)
            refine XK.st (some 131) rfl rfl (sf_move (v := .d (.val (.bool (decide ((0 : Int) ≤ i2))))) rfl rfl ?_)
            refine XK.gd (v := .d (.val (.int .i64 i2))) (T := []) (some 132) rfl rfl (by repeat (first | exact trivial | refine And.intro (fun hg => by first | rfl | exact hg | exact (Bool.and_eq_true_iff.mp hg).1 | exact (Bool.and_eq_true_iff.mp (Bool.and_eq_true_iff.mp hg).1).1) ?_)) (fun hg => sf_move (v := .d (.val (.int .i64 i2))) rfl rfl ⟨⟨rfl, rfl, rfl⟩, rfl, Imp.refl⟩) (fun _ _ hi => nomatch hi) ?_
            refine XK.gd (v := .d (.slice (x_6.map eRow))) (T := []) (some 133) rfl rfl (by repeat (first | exact trivial | refine And.intro (fun hg => by first | rfl | exact hg | exact (Bool.and_eq_true_iff.mp hg).1 | exact (Bool.and_eq_true_iff.mp (Bool.and_eq_true_iff.mp hg).1).1) ?_)) (fun hg => sf_move (v := .d (.slice (x_6.map eRow))) rfl rfl ⟨⟨rfl, rfl, rfl⟩, rfl, Imp.refl⟩) (fun _ _ hi => nomatch hi) ?_
            refine XK.gd (v := .d (.val (.int .i64 (x_6.length : Int)))) (T := []) (some 134) rfl rfl (by repeat (first | exact trivial | refine And.intro (fun hg => by first | rfl | exact hg | exact (Bool.and_eq_true_iff.mp hg).1 | exact (Bool.and_eq_true_iff.mp (Bool.and_eq_true_iff.mp hg).1).1) ?_)) (fun hg => sf_lenL (en := eRow) (l := x_6) rfl TT.under_22 rfl ⟨⟨rfl, rfl, rfl⟩, rfl, Imp.refl⟩) (fun _ _ hi => nomatch hi) ?_
            refine XK.gd (v := .d (.val (.bool (decide (i2 < (x_6.length : Int)))))) (T := []) (some 135) rfl rfl (by repeat (first | exact trivial | refine And.intro (fun hg => by first | rfl | exact hg | exact (Bool.and_eq_true_iff.mp hg).1 | exact (Bool.and_eq_true_iff.mp (Bool.and_eq_true_iff.mp hg).1).1) ?_)) (fun hg => sf_lss (a := i2) (b := (x_6.length : Int)) rfl rfl rfl ⟨⟨rfl, rfl, rfl⟩, rfl, Imp.refl⟩) (fun _ _ hi => nomatch hi) ?_
            refine XK.st (some 136) rfl rfl (sf_pickA rfl rfl rfl rfl (fun hb => by rw [hb]; rfl) (fun _ => rfl) ?_)
            refine XK.nil (nrm ?_)
            refine QW.cond (t := ((decide ((0 : Int) ≤ i2)) && (decide (i2 < (x_6.length : Int))))) rfl (Nat.zero_le _) (fun hb_34 => ?_) (fun hb_34 => ?_)
            · replace h := bT h hb_34
              refine QW.region (Nat.zero_le _) (PW.regK (id := 14) mixedX (M := _) rfl (by kernel_rfl) ?_)
              refine RK.st (some 137) rfl rfl (sf_row (en := eRow) (l := ([] : List Row)) rfl TT.rowA_22 lay_Row (by first | rfl | (simp only [List.map_cons, List.map_nil, eRow_eq]; rfl)) rfl (by decide) (by simp [solids, partsP, evP, ofVal, PV.solid, putS_at, tab, unS, unT, unC, asCond, Value.oneCell']) ?_)
              refine RK.st (some 138) rfl rfl (sf_move (v := .d (.slice (x_6.map eRow))) rfl rfl ?_)
              refine RK.st (some 139) rfl rfl (sf_move (v := .d (.val (.int .i64 i2))) rfl rfl ?_)
              obtain ⟨c_35, h⟩ := gO_get h
              refine RK.st (some 140) rfl rfl (sf_subL (l := x_6) (a := (0 : Int)) (b := i2) rfl TT.under_22 TT.slcA_22 lay_Row rfl rfl rfl c_35 ?_)
              obtain ⟨c_36, h⟩ := gO_get h
              refine RK.st (some 141) rfl rfl (sf_appF (en := eRow) (l := ([] : List Row)) (l2 := (sub x_6 (0 : Int) i2)) rfl TT.rowA_22 TT.under_22 rfl lay_Row rfl rfl ⟨c_36, fun _ => rfl⟩ (by decide) ?_)
              refine RK.st (some 142) rfl rfl (sf_move (v := .d (.slice (x_6.map eRow))) rfl rfl ?_)
              refine RK.st (some 143) rfl rfl (sf_move (v := .d (.val (.int .i64 i2))) rfl rfl ?_)
              obtain ⟨c_37, h⟩ := gO_get h
              refine RK.st (some 144) rfl rfl (sf_add (a := i2) (b := (1 : Int)) rfl rfl rfl c_37 ?_)
              obtain ⟨c_38, h⟩ := gO_get h
              refine RK.st (some 145) rfl rfl (sf_subL (l := x_6) (a := (i2 + (1 : Int))) (b := (x_6.length : Int)) rfl TT.under_22 TT.slcA_22 lay_Row rfl rfl rfl c_38 ?_)
              obtain ⟨c_39, h⟩ := gO_get h
              refine RK.st (some 146) rfl rfl (sf_appO (en := eRow) (l := (([] : List Row) ++ (sub x_6 (0 : Int) i2))) (l2 := (sub x_6 (i2 + (1 : Int)) (x_6.length : Int))) rfl TT.rowA_22 TT.under_22 rfl lay_Row rfl rfl rfl c_39 (by decide) ?_)
              refine RK.st (some 14) rfl rfl (sf_assign (v := .own 4 (((([] : List Row) ++ (sub x_6 (0 : Int) i2)) ++ (sub x_6 (i2 + (1 : Int)) (x_6.length : Int))).map eRow)) rfl rfl ?_)
              refine RK.nil ⟨RecsOK.comp (by rfl), (nrm ?_)⟩
              obtain rfl := sO h
              exact ⟨⟨tab [(7, .d (.slice (x_6.map eRow))), (13, .d (.slice (x_32.map eRow))), (14, .d (.slice (((([] : List Row) ++ (sub x_6 (0 : Int) i2)) ++ (sub x_6 (i2 + (1 : Int)) (x_6.length : Int))).map eRow)))], tabH [], 0, []⟩, View.mk 0 [] _ _ _ rfl rfl (by decide) (And.intro (Imp.of_eq rfl) (And.intro (Imp.of_eq rfl) (And.intro (Imp.toD rfl) trivial))) trivial rfl (Nat.zero_le _) rfl, rfl⟩
            · replace h := bF h hb_34
              refine QW.skip (Nat.zero_le _) (nrm ?_)
              obtain rfl := sO h
              exact ⟨⟨tab [(7, .d (.slice (x_6.map eRow))), (13, .d (.slice (x_32.map eRow))), (14, .d (.slice (x_6.map eRow)))], tabH [], 0, []⟩, View.mk 0 [] _ _ _ rfl rfl (by decide) (And.intro (Imp.of_eq rfl) (And.intro (Imp.of_eq rfl) (And.intro (Imp.of_eq rfl) trivial))) trivial rfl (Nat.zero_le _) rfl, rfl⟩
          · rintro _ rfl
            refine QW.seq ?_
            refine QW.region (Nat.zero_le _) (PW.regT (by kernel_rfl) ?_)
            refine XK.st (some 148) rfl rfl (sf_move (v := .d (.slice (x_6.map eRow))) rfl rfl ?_)
            obtain ⟨x_40, hx_41, h⟩ := bO h
            refine XK.st (some 149) rfl rfl (sf_call rfl rfl TT.enters_30 rfl (sim_page_Split x_6 _ hx_41) ?_)
            refine XK.st (some 147) rfl rfl (sf_move (v := .d (.tuple [.slice ((x_40.1).map eRow), .slice ((x_40.2).map eRow)])) rfl rfl ?_)
            refine XK.st (some 150) rfl rfl (sf_extract rfl rfl rfl ?_)
            refine XK.st (some 151) rfl rfl (sf_extract rfl rfl rfl ?_)
            refine XK.st (some 15) rfl rfl (sf_assign (v := .d (.slice ((x_40.1).map eRow))) rfl rfl ?_)
            refine XK.st (some 16) rfl rfl (sf_assign (v := .d (.slice ((x_40.2).map eRow))) rfl rfl ?_)
            refine XK.nil (nrm ?_)
            refine QW.seq ?_
            refine QW.region (Nat.zero_le _) (PW.regK (id := 16) mixedX (M := _) rfl (by kernel_rfl) ?_)
            obtain ⟨x_42, hx_43, h⟩ := bO h
            refine RK.st (some 152) rfl rfl (sf_call rfl rfl TT.enters_16 rfl (sim_law47_awake  _ hx_43) ?_)
            refine RK.st (some 153) rfl rfl (sf_move (v := .d (.val (.bool x_42))) rfl rfl ?_)
            refine RK.gd (v := .d (.slice (x_32.map eRow))) (T := []) (some 154) rfl rfl (by repeat (first | exact trivial | refine And.intro (fun hg => by first | rfl | exact hg | exact (Bool.and_eq_true_iff.mp hg).1 | exact (Bool.and_eq_true_iff.mp (Bool.and_eq_true_iff.mp hg).1).1) ?_)) (fun hg => sf_move (v := .d (.slice (x_32.map eRow))) rfl rfl ⟨⟨rfl, rfl, rfl⟩, rfl, Imp.refl⟩) (fun _ _ hi => nomatch hi) ?_
            refine RK.gd (v := .d (.slice (v14.map eRow))) (T := []) (some 155) rfl rfl (by repeat (first | exact trivial | refine And.intro (fun hg => by first | rfl | exact hg | exact (Bool.and_eq_true_iff.mp hg).1 | exact (Bool.and_eq_true_iff.mp (Bool.and_eq_true_iff.mp hg).1).1) ?_)) (fun hg => sf_move (v := .d (.slice (v14.map eRow))) rfl rfl ⟨⟨rfl, rfl, rfl⟩, rfl, Imp.refl⟩) (fun _ _ hi => nomatch hi) ?_
            obtain ⟨x_44, hx_45, h⟩ := bO h
            refine RK.gd (v := .d (.val (.bool x_44))) (T := []) (some 156) rfl rfl (by repeat (first | exact trivial | refine And.intro (fun hg => by first | rfl | exact hg | exact (Bool.and_eq_true_iff.mp hg).1 | exact (Bool.and_eq_true_iff.mp (Bool.and_eq_true_iff.mp hg).1).1) ?_)) (fun hg => sf_call rfl rfl TT.enters_21 rfl (sim_ref47_Same x_32 v14 _ (bT hx_45 hg)) ⟨⟨rfl, rfl, rfl⟩, rfl, Imp.refl⟩) (fun _ _ hi => nomatch hi) ?_
            refine RK.st (some 157) rfl rfl (sf_pickA rfl rfl rfl rfl (fun hb => by rw [hb]; rfl) (fun _ => rfl) ?_)
            refine RK.st (some 158) rfl rfl (sf_move (v := .d (.val (.bool (x_42 && x_44)))) rfl rfl ?_)
            refine RK.gd (v := .full (([] : List Row).map eRow)) (T := []) (some 159) rfl rfl (by repeat (first | exact trivial | refine And.intro (fun hg => by first | rfl | exact hg | exact (Bool.and_eq_true_iff.mp hg).1 | exact (Bool.and_eq_true_iff.mp (Bool.and_eq_true_iff.mp hg).1).1) ?_)) (fun hg => sf_row (en := eRow) (l := ([] : List Row)) rfl TT.rowA_22 lay_Row (by first | rfl | (simp only [List.map_cons, List.map_nil, eRow_eq]; rfl)) rfl (by decide) (by simp [solids, partsP, evP, ofVal, PV.solid, putS_at, tab, unS, unT, unC, asCond, Value.oneCell']) ⟨⟨rfl, rfl, rfl⟩, rfl, Imp.refl⟩) (fun _ _ hi => nomatch hi) ?_
            refine RK.gd (v := .d (.slice ((x_40.1).map eRow))) (T := []) (some 160) rfl rfl (by repeat (first | exact trivial | refine And.intro (fun hg => by first | rfl | exact hg | exact (Bool.and_eq_true_iff.mp hg).1 | exact (Bool.and_eq_true_iff.mp (Bool.and_eq_true_iff.mp hg).1).1) ?_)) (fun hg => sf_move (v := .d (.slice ((x_40.1).map eRow))) rfl rfl ⟨⟨rfl, rfl, rfl⟩, rfl, Imp.refl⟩) (fun _ _ hi => nomatch hi) ?_
            refine RK.sp (b := (x_42 && x_44)) [(157, .d (.val (.bool true))), (158, .d (.val (.bool true))), (159, .cond true (.full (([] : List Row).map eRow))), (160, .cond true (.d (.slice ((x_40.1).map eRow))))] [(157, .d (.val (.bool false))), (158, .d (.val (.bool false))), (159, .cond false (.full (([] : List Row).map eRow))), (160, .cond false (.d (.slice ((x_40.1).map eRow))))] (fun hb => And.intro (congrArg (fun b => PV.d (.val (.bool b))) hb) (And.intro (congrArg (fun b => PV.d (.val (.bool b))) hb) (And.intro (congrArg (fun b => PV.cond (b == true) (.full (([] : List Row).map eRow))) hb) (And.intro (congrArg (fun b => PV.cond (b == true) (.d (.slice ((x_40.1).map eRow)))) hb) trivial)))) (fun hb => And.intro (congrArg (fun b => PV.d (.val (.bool b))) hb) (And.intro (congrArg (fun b => PV.d (.val (.bool b))) hb) (And.intro (congrArg (fun b => PV.cond (b == true) (.full (([] : List Row).map eRow))) hb) (And.intro (congrArg (fun b => PV.cond (b == true) (.d (.slice ((x_40.1).map eRow)))) hb) trivial)))) (fun hb_46 => ?_) (fun hb_46 => ?_)
            · replace h := bT h hb_46
              obtain ⟨c_47, h⟩ := gO_get h
              refine RK.onF (some 161) rfl rfl (sf_appF (en := eRow) (l := ([] : List Row)) (l2 := x_40.1) rfl TT.rowA_22 TT.under_22 rfl lay_Row rfl rfl ⟨c_47, fun _ => rfl⟩ (by decide) ?_)
              refine RK.oa (v := .d (.slice ((x_40.2).map eRow))) (T := []) (some 162) rfl rfl (sf_move (v := .d (.slice ((x_40.2).map eRow))) rfl rfl ⟨⟨rfl, rfl, rfl⟩, rfl, Imp.refl⟩) ?_
              obtain ⟨c_48, h⟩ := gO_get h
              refine RK.onF (some 163) rfl rfl (sf_appO (en := eRow) (l := (([] : List Row) ++ x_40.1)) (l2 := x_40.2) rfl TT.rowA_22 TT.under_22 rfl lay_Row rfl rfl rfl c_48 (by decide) ?_)
              refine RK.oa (v := .d (.slice (x_6.map eRow))) (T := []) (some 164) rfl rfl (sf_move (v := .d (.slice (x_6.map eRow))) rfl rfl ⟨⟨rfl, rfl, rfl⟩, rfl, Imp.refl⟩) ?_
              obtain ⟨x_49, hx_50, h⟩ := bO h
              refine RK.oa (v := .d (.val (.bool x_49))) (T := []) (some 165) rfl rfl (sf_call rfl rfl TT.enters_21 rfl (sim_ref47_Same ((([] : List Row) ++ x_40.1) ++ x_40.2) x_6 _ hx_50) ⟨⟨rfl, rfl, rfl⟩, rfl, Imp.refl⟩) ?_
              refine RK.st (some 166) rfl rfl (sf_pickT rfl rfl rfl rfl rfl rfl ?_)
              refine RK.st (some 167) rfl rfl (sf_move (v := .d (.val (.bool x_49))) rfl rfl ?_)
              refine RK.gd (v := .d (.slice ((x_40.1).map eRow))) (T := []) (some 168) rfl rfl (by repeat (first | exact trivial | refine And.intro (fun hg => by first | rfl | exact hg | exact (Bool.and_eq_true_iff.mp hg).1 | exact (Bool.and_eq_true_iff.mp (Bool.and_eq_true_iff.mp hg).1).1) ?_)) (fun hg => sf_move (v := .d (.slice ((x_40.1).map eRow))) rfl rfl ⟨⟨rfl, rfl, rfl⟩, rfl, Imp.refl⟩) (fun _ _ hi => nomatch hi) ?_
              refine RK.gd (v := .d (.val (.int .i64 ((x_40.1).length : Int)))) (T := []) (some 169) rfl rfl (by repeat (first | exact trivial | refine And.intro (fun hg => by first | rfl | exact hg | exact (Bool.and_eq_true_iff.mp hg).1 | exact (Bool.and_eq_true_iff.mp (Bool.and_eq_true_iff.mp hg).1).1) ?_)) (fun hg => sf_lenL (en := eRow) (l := x_40.1) rfl TT.under_22 rfl ⟨⟨rfl, rfl, rfl⟩, rfl, Imp.refl⟩) (fun _ _ hi => nomatch hi) ?_
              refine RK.gd (v := .d (.slice ((x_40.2).map eRow))) (T := []) (some 170) rfl rfl (by repeat (first | exact trivial | refine And.intro (fun hg => by first | rfl | exact hg | exact (Bool.and_eq_true_iff.mp hg).1 | exact (Bool.and_eq_true_iff.mp (Bool.and_eq_true_iff.mp hg).1).1) ?_)) (fun hg => sf_move (v := .d (.slice ((x_40.2).map eRow))) rfl rfl ⟨⟨rfl, rfl, rfl⟩, rfl, Imp.refl⟩) (fun _ _ hi => nomatch hi) ?_
              refine RK.gd (v := .d (.val (.int .i64 ((x_40.2).length : Int)))) (T := []) (some 171) rfl rfl (by repeat (first | exact trivial | refine And.intro (fun hg => by first | rfl | exact hg | exact (Bool.and_eq_true_iff.mp hg).1 | exact (Bool.and_eq_true_iff.mp (Bool.and_eq_true_iff.mp hg).1).1) ?_)) (fun hg => sf_lenL (en := eRow) (l := x_40.2) rfl TT.under_22 rfl ⟨⟨rfl, rfl, rfl⟩, rfl, Imp.refl⟩) (fun _ _ hi => nomatch hi) ?_
              refine RK.gd (v := .d (.val (.bool (decide (((x_40.1).length : Int) = ((x_40.2).length : Int)))))) (T := []) (some 172) rfl rfl (by repeat (first | exact trivial | refine And.intro (fun hg => by first | rfl | exact hg | exact (Bool.and_eq_true_iff.mp hg).1 | exact (Bool.and_eq_true_iff.mp (Bool.and_eq_true_iff.mp hg).1).1) ?_)) (fun hg => sf_eq (a := ((x_40.1).length : Int)) (b := ((x_40.2).length : Int)) rfl rfl rfl ⟨⟨rfl, rfl, rfl⟩, rfl, Imp.refl⟩) (fun _ _ hi => nomatch hi) ?_
              refine RK.gd (v := .d (.val (.bool (decide (((x_40.1).length : Int) = ((x_40.2).length : Int)))))) (T := []) (some 173) rfl rfl (by repeat (first | exact trivial | refine And.intro (fun hg => by first | rfl | exact hg | exact (Bool.and_eq_true_iff.mp hg).1 | exact (Bool.and_eq_true_iff.mp (Bool.and_eq_true_iff.mp hg).1).1) ?_)) (fun hg => sf_move (v := .d (.val (.bool (decide (((x_40.1).length : Int) = ((x_40.2).length : Int)))))) rfl rfl ⟨⟨rfl, rfl, rfl⟩, rfl, Imp.refl⟩) (fun _ _ hi => nomatch hi) ?_
              refine RK.gd (v := .d (.slice ((x_40.1).map eRow))) (T := []) (some 174) rfl rfl (by repeat (first | exact trivial | refine And.intro (fun hg => by first | rfl | exact hg | exact (Bool.and_eq_true_iff.mp hg).1 | exact (Bool.and_eq_true_iff.mp (Bool.and_eq_true_iff.mp hg).1).1) ?_)) (fun hg => sf_move (v := .d (.slice ((x_40.1).map eRow))) rfl rfl ⟨⟨rfl, rfl, rfl⟩, rfl, Imp.refl⟩) (fun _ _ hi => nomatch hi) ?_
              refine RK.gd (v := .d (.val (.int .i64 ((x_40.1).length : Int)))) (T := []) (some 175) rfl rfl (by repeat (first | exact trivial | refine And.intro (fun hg => by first | rfl | exact hg | exact (Bool.and_eq_true_iff.mp hg).1 | exact (Bool.and_eq_true_iff.mp (Bool.and_eq_true_iff.mp hg).1).1) ?_)) (fun hg => sf_lenL (en := eRow) (l := x_40.1) rfl TT.under_22 rfl ⟨⟨rfl, rfl, rfl⟩, rfl, Imp.refl⟩) (fun _ _ hi => nomatch hi) ?_
              refine RK.gd (v := .d (.slice ((x_40.2).map eRow))) (T := []) (some 176) rfl rfl (by repeat (first | exact trivial | refine And.intro (fun hg => by first | rfl | exact hg | exact (Bool.and_eq_true_iff.mp hg).1 | exact (Bool.and_eq_true_iff.mp (Bool.and_eq_true_iff.mp hg).1).1) ?_)) (fun hg => sf_move (v := .d (.slice ((x_40.2).map eRow))) rfl rfl ⟨⟨rfl, rfl, rfl⟩, rfl, Imp.refl⟩) (fun _ _ hi => nomatch hi) ?_
              refine RK.gd (v := .d (.val (.int .i64 ((x_40.2).length : Int)))) (T := []) (some 177) rfl rfl (by repeat (first | exact trivial | refine And.intro (fun hg => by first | rfl | exact hg | exact (Bool.and_eq_true_iff.mp hg).1 | exact (Bool.and_eq_true_iff.mp (Bool.and_eq_true_iff.mp hg).1).1) ?_)) (fun hg => sf_lenL (en := eRow) (l := x_40.2) rfl TT.under_22 rfl ⟨⟨rfl, rfl, rfl⟩, rfl, Imp.refl⟩) (fun _ _ hi => nomatch hi) ?_
              obtain ⟨c_51, h⟩ := gO_get h
              refine RK.gd (v := .d (.val (.int .i64 (((x_40.2).length : Int) + (1 : Int))))) (T := []) (some 178) rfl rfl (by repeat (first | exact trivial | refine And.intro (fun hg => by first | rfl | exact hg | exact (Bool.and_eq_true_iff.mp hg).1 | exact (Bool.and_eq_true_iff.mp (Bool.and_eq_true_iff.mp hg).1).1) ?_)) (fun hg => sf_add (a := ((x_40.2).length : Int)) (b := (1 : Int)) rfl rfl rfl (c_51 hg) ⟨⟨rfl, rfl, rfl⟩, rfl, Imp.refl⟩) (fun _ _ hi => nomatch hi) ?_
              refine RK.gd (v := .d (.val (.bool (decide (((x_40.1).length : Int) = (((x_40.2).length : Int) + (1 : Int))))))) (T := []) (some 179) rfl rfl (by repeat (first | exact trivial | refine And.intro (fun hg => by first | rfl | exact hg | exact (Bool.and_eq_true_iff.mp hg).1 | exact (Bool.and_eq_true_iff.mp (Bool.and_eq_true_iff.mp hg).1).1) ?_)) (fun hg => sf_eq (a := ((x_40.1).length : Int)) (b := (((x_40.2).length : Int) + (1 : Int))) rfl rfl rfl ⟨⟨rfl, rfl, rfl⟩, rfl, Imp.refl⟩) (fun _ _ hi => nomatch hi) ?_
              refine RK.gp (some 180) rfl rfl rfl rfl rfl rfl (fun h => h) (fun _ _ => rfl) (fun hg hb => by first | (rw [hg, hb]; rfl) | (simp only [hg, hb]; rfl) | simp_all) ((decide (((x_40.1).length : Int) = ((x_40.2).length : Int))) || (decide (((x_40.1).length : Int) = (((x_40.2).length : Int) + (1 : Int))))) (bif_or _ _) ?_
              refine RK.st (some 181) rfl rfl (sf_pickA rfl rfl rfl rfl (fun hb => by rw [hb]; rfl) (fun _ => rfl) ?_)
              refine RK.st (some 182) rfl rfl (sf_move (v := .d (.val (.bool (x_49 && ((decide (((x_40.1).length : Int) = ((x_40.2).length : Int))) || (decide (((x_40.1).length : Int) = (((x_40.2).length : Int) + (1 : Int))))))))) rfl rfl ?_)
              refine RK.gd (v := .d (.slice (x_6.map eRow))) (T := []) (some 183) rfl rfl (by repeat (first | exact trivial | refine And.intro (fun hg => by first | rfl | exact hg | exact (Bool.and_eq_true_iff.mp hg).1 | exact (Bool.and_eq_true_iff.mp (Bool.and_eq_true_iff.mp hg).1).1) ?_)) (fun hg => sf_move (v := .d (.slice (x_6.map eRow))) rfl rfl ⟨⟨rfl, rfl, rfl⟩, rfl, Imp.refl⟩) (fun _ _ hi => nomatch hi) ?_
              refine RK.gd (v := .d (.val (.int .i64 (x_6.length : Int)))) (T := []) (some 184) rfl rfl (by repeat (first | exact trivial | refine And.intro (fun hg => by first | rfl | exact hg | exact (Bool.and_eq_true_iff.mp hg).1 | exact (Bool.and_eq_true_iff.mp (Bool.and_eq_true_iff.mp hg).1).1) ?_)) (fun hg => sf_lenL (en := eRow) (l := x_6) rfl TT.under_22 rfl ⟨⟨rfl, rfl, rfl⟩, rfl, Imp.refl⟩) (fun _ _ hi => nomatch hi) ?_
              refine RK.gd (v := .d (.val (.bool (decide ((x_6.length : Int) < (2 : Int)))))) (T := []) (some 185) rfl rfl (by repeat (first | exact trivial | refine And.intro (fun hg => by first | rfl | exact hg | exact (Bool.and_eq_true_iff.mp hg).1 | exact (Bool.and_eq_true_iff.mp (Bool.and_eq_true_iff.mp hg).1).1) ?_)) (fun hg => sf_lss (a := (x_6.length : Int)) (b := (2 : Int)) rfl rfl rfl ⟨⟨rfl, rfl, rfl⟩, rfl, Imp.refl⟩) (fun _ _ hi => nomatch hi) ?_
              refine RK.gd (v := .d (.val (.bool (decide ((x_6.length : Int) < (2 : Int)))))) (T := []) (some 186) rfl rfl (by repeat (first | exact trivial | refine And.intro (fun hg => by first | rfl | exact hg | exact (Bool.and_eq_true_iff.mp hg).1 | exact (Bool.and_eq_true_iff.mp (Bool.and_eq_true_iff.mp hg).1).1) ?_)) (fun hg => sf_move (v := .d (.val (.bool (decide ((x_6.length : Int) < (2 : Int)))))) rfl rfl ⟨⟨rfl, rfl, rfl⟩, rfl, Imp.refl⟩) (fun _ _ hi => nomatch hi) ?_
              refine RK.gd (v := .d (.slice (x_6.map eRow))) (T := []) (some 187) rfl rfl (by repeat (first | exact trivial | refine And.intro (fun hg => by first | rfl | exact hg | exact (Bool.and_eq_true_iff.mp hg).1 | exact (Bool.and_eq_true_iff.mp (Bool.and_eq_true_iff.mp hg).1).1) ?_)) (fun hg => sf_move (v := .d (.slice (x_6.map eRow))) rfl rfl ⟨⟨rfl, rfl, rfl⟩, rfl, Imp.refl⟩) (fun _ _ hi => nomatch hi) ?_
              obtain ⟨c_52, h⟩ := gO_get h
              refine RK.gd (v := .d (.cptr (cRow (idx x_6 (0 : Int))))) (T := []) (some 188) rfl rfl (by repeat (first | exact trivial | refine And.intro (fun hg => by first | rfl | exact hg | exact (Bool.and_eq_true_iff.mp hg).1 | exact (Bool.and_eq_true_iff.mp (Bool.and_eq_true_iff.mp hg).1).1) ?_)) (fun hg => sf_idxA (l := x_6) (i := (0 : Int)) rfl TT.slcA_22 lay_Row rfl rfl (c_52 hg) ⟨⟨rfl, rfl, rfl⟩, rfl, Imp.refl⟩) (fun _ _ hi => nomatch hi) ?_
              refine RK.gd (v := .d (.agg (cRow (idx x_6 (0 : Int))))) (T := []) (some 189) rfl rfl (by repeat (first | exact trivial | refine And.intro (fun hg => by first | rfl | exact hg | exact (Bool.and_eq_true_iff.mp hg).1 | exact (Bool.and_eq_true_iff.mp (Bool.and_eq_true_iff.mp hg).1).1) ?_)) (fun hg => sf_ldC (d := .agg (cRow (idx x_6 (0 : Int)))) rfl TT.tyA_37 rfl (⟨by rw [lay_Row.len]; decide, congrArg D.agg (List.take_of_length_le (by rw [lay_Row.len]; decide))⟩) ⟨⟨rfl, rfl, rfl⟩, rfl, Imp.refl⟩) (fun _ _ hi => nomatch hi) ?_
              refine RK.gd (v := .d (.slice (x_6.map eRow))) (T := []) (some 190) rfl rfl (by repeat (first | exact trivial | refine And.intro (fun hg => by first | rfl | exact hg | exact (Bool.and_eq_true_iff.mp hg).1 | exact (Bool.and_eq_true_iff.mp (Bool.and_eq_true_iff.mp hg).1).1) ?_)) (fun hg => sf_move (v := .d (.slice (x_6.map eRow))) rfl rfl ⟨⟨rfl, rfl, rfl⟩, rfl, Imp.refl⟩) (fun _ _ hi => nomatch hi) ?_
              obtain ⟨c_53, h⟩ := gO_get h
              refine RK.gd (v := .d (.cptr (cRow (idx x_6 (1 : Int))))) (T := []) (some 191) rfl rfl (by repeat (first | exact trivial | refine And.intro (fun hg => by first | rfl | exact hg | exact (Bool.and_eq_true_iff.mp hg).1 | exact (Bool.and_eq_true_iff.mp (Bool.and_eq_true_iff.mp hg).1).1) ?_)) (fun hg => sf_idxA (l := x_6) (i := (1 : Int)) rfl TT.slcA_22 lay_Row rfl rfl (c_53 hg) ⟨⟨rfl, rfl, rfl⟩, rfl, Imp.refl⟩) (fun _ _ hi => nomatch hi) ?_
              refine RK.gd (v := .d (.agg (cRow (idx x_6 (1 : Int))))) (T := []) (some 192) rfl rfl (by repeat (first | exact trivial | refine And.intro (fun hg => by first | rfl | exact hg | exact (Bool.and_eq_true_iff.mp hg).1 | exact (Bool.and_eq_true_iff.mp (Bool.and_eq_true_iff.mp hg).1).1) ?_)) (fun hg => sf_ldC (d := .agg (cRow (idx x_6 (1 : Int)))) rfl TT.tyA_37 rfl (⟨by rw [lay_Row.len]; decide, congrArg D.agg (List.take_of_length_le (by rw [lay_Row.len]; decide))⟩) ⟨⟨rfl, rfl, rfl⟩, rfl, Imp.refl⟩) (fun _ _ hi => nomatch hi) ?_
              obtain ⟨x_54, hx_55, h⟩ := bO h
              refine RK.gd (v := .d (.val (.bool x_54))) (T := []) (some 193) rfl rfl (by repeat (first | exact trivial | refine And.intro (fun hg => by first | rfl | exact hg | exact (Bool.and_eq_true_iff.mp hg).1 | exact (Bool.and_eq_true_iff.mp (Bool.and_eq_true_iff.mp hg).1).1) ?_)) (fun hg => sf_call rfl rfl TT.enters_31 rfl (sim_page_Less (idx x_6 (0 : Int)) (idx x_6 (1 : Int)) _ (bT hx_55 hg)) ⟨⟨rfl, rfl, rfl⟩, rfl, Imp.refl⟩) (fun _ _ hi => nomatch hi) ?_
              refine RK.gp (some 194) rfl rfl rfl rfl rfl rfl (fun h => h) (fun _ _ => rfl) (fun hg hb => by first | (rw [hg, hb]; rfl) | (simp only [hg, hb]; rfl) | simp_all) ((decide ((x_6.length : Int) < (2 : Int))) || x_54) (bif_or _ _) ?_
              refine RK.st (some 195) rfl rfl (sf_pickA rfl rfl rfl rfl (fun hb => by rw [hb]; rfl) (fun _ => rfl) ?_)
              refine RK.st (some 6) rfl rfl (sf_assign (v := .d (.val (.bool ((x_49 && ((decide (((x_40.1).length : Int) = ((x_40.2).length : Int))) || (decide (((x_40.1).length : Int) = (((x_40.2).length : Int) + (1 : Int)))))) && ((decide ((x_6.length : Int) < (2 : Int))) || x_54))))) rfl rfl ?_)
              refine RK.nil ⟨RecsOK.comp (by rfl), (nrm ?_)⟩
              refine QW.ret (Nat.zero_le _) ?_
              obtain rfl := sO h
              exact Ends.one (.inr rfl) rfl (ResIs.tmp rfl) rfl rfl
            · replace h := bF h hb_46
              refine RK.of (some 161) rfl rfl ?_
              refine RK.of (some 162) rfl rfl ?_
              refine RK.of (some 163) rfl rfl ?_
              refine RK.of (some 164) rfl rfl ?_
              refine RK.of (some 165) rfl rfl ?_
              refine RK.st (some 166) rfl rfl (sf_pickF rfl rfl rfl rfl rfl rfl ?_)
              refine RK.st (some 167) rfl rfl (sf_move (v := .d (.val (.bool false))) rfl rfl ?_)
              refine RK.of (some 168) rfl rfl ?_
              refine RK.of (some 169) rfl rfl ?_
              refine RK.of (some 170) rfl rfl ?_
              refine RK.of (some 171) rfl rfl ?_
              refine RK.of (some 172) rfl rfl ?_
              refine RK.of (some 173) rfl rfl ?_
              refine RK.of (some 174) rfl rfl ?_
              refine RK.of (some 175) rfl rfl ?_
              refine RK.of (some 176) rfl rfl ?_
              refine RK.of (some 177) rfl rfl ?_
              refine RK.of (some 178) rfl rfl ?_
              refine RK.of (some 179) rfl rfl ?_
              refine RK.of (some 180) rfl rfl ?_
              refine RK.st (some 181) rfl rfl (sf_pickF rfl rfl rfl rfl rfl rfl ?_)
              refine RK.st (some 182) rfl rfl (sf_move (v := .d (.val (.bool false))) rfl rfl ?_)
              refine RK.of (some 183) rfl rfl ?_
              refine RK.of (some 184) rfl rfl ?_
              refine RK.of (some 185) rfl rfl ?_
              refine RK.of (some 186) rfl rfl ?_
              refine RK.of (some 187) rfl rfl ?_
              refine RK.of (some 188) rfl rfl ?_
              refine RK.of (some 189) rfl rfl ?_
              refine RK.of (some 190) rfl rfl ?_
              refine RK.of (some 191) rfl rfl ?_
              refine RK.of (some 192) rfl rfl ?_
              refine RK.of (some 193) rfl rfl ?_
              refine RK.of (some 194) rfl rfl ?_
              refine RK.st (some 195) rfl rfl (sf_pickF rfl rfl rfl rfl rfl rfl ?_)
              refine RK.st (some 6) rfl rfl (sf_assign (v := .d (.val (.bool false))) rfl rfl ?_)
              refine RK.nil ⟨RecsOK.quiet (by simp), (nrm ?_)⟩
              refine QW.ret (Nat.zero_le _) ?_
              obtain rfl := sO h
              exact Ends.one (.inr rfl) rfl (ResIs.tmp rfl) rfl rfl

end Go.Proofs.Ytoeppofkmcdknaa.K
