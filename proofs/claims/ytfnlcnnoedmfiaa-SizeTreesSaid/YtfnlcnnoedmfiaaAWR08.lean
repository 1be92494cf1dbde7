/- The references of layers 08 to 13 and 20: what they reckon. -/
import Derived.Test.YtfnlcnnoedmfiaaAWR06
import Derived.KernelRfl
namespace Go.Proofs.Ytfnlcnnoedmfiaa.K
open Go Go.RowKit
set_option linter.unusedSimpArgs false
set_option linter.unusedVariables false
set_option maxRecDepth 20000
set_option maxHeartbeats 4000000
namespace TT
theorem arrB_24_32 : arrB Try.prog 24 32 = true := by kernel_rfl
theorem bldA_41 : bldA Try.prog 41 = some ([Value.int IntKind.u8 0, Value.int IntKind.u8 0, Value.int IntKind.u8 0, Value.int IntKind.u8 0, Value.int IntKind.u8 0, Value.int IntKind.u8 0, Value.int IntKind.u8 0, Value.int IntKind.u8 0, Value.int IntKind.u8 0, Value.int IntKind.u8 0, Value.int IntKind.u8 0, Value.int IntKind.u8 0, Value.int IntKind.u8 0, Value.int IntKind.u8 0, Value.int IntKind.u8 0, Value.int IntKind.u8 0, Value.int IntKind.u8 0, Value.int IntKind.u8 0, Value.int IntKind.u8 0, Value.int IntKind.u8 0, Value.int IntKind.u8 0, Value.int IntKind.u8 0, Value.int IntKind.u8 0, Value.int IntKind.u8 0, Value.int IntKind.u8 0, Value.int IntKind.u8 0, Value.int IntKind.u8 0, Value.int IntKind.u8 0, Value.int IntKind.u8 0, Value.int IntKind.u8 0, Value.int IntKind.u8 0, Value.int IntKind.u8 0, Value.string ⟨#[]⟩], .inl [(0, 32), (32, 1)]) := by kernel_rfl
theorem bldA_43 : bldA Try.prog 43 = some ([Value.slice none 0 0, Value.string ⟨#[]⟩], .inl [(0, 1), (1, 1)]) := by kernel_rfl
theorem bldA_46 : bldA Try.prog 46 = some ([Value.int IntKind.i64 0, Value.slice none 0 0, Value.string ⟨#[]⟩, Value.string ⟨#[]⟩, Value.string ⟨#[]⟩, Value.string ⟨#[]⟩, Value.string ⟨#[]⟩, Value.string ⟨#[]⟩, Value.string ⟨#[]⟩, Value.string ⟨#[]⟩, Value.string ⟨#[]⟩, Value.string ⟨#[]⟩, Value.string ⟨#[]⟩, Value.string ⟨#[]⟩, Value.string ⟨#[]⟩, Value.string ⟨#[]⟩, Value.string ⟨#[]⟩, Value.string ⟨#[]⟩, Value.string ⟨#[]⟩], .inl [(0, 1), (1, 1), (2, 1), (3, 16)]) := by kernel_rfl
theorem enters_19 : entersB Try.prog 19 = true := by kernel_rfl
theorem enters_20 : entersB Try.prog 20 = true := by kernel_rfl
theorem enters_21 : entersB Try.prog 21 = true := by kernel_rfl
theorem enters_22 : entersB Try.prog 22 = true := by kernel_rfl
theorem enters_23 : entersB Try.prog 23 = true := by kernel_rfl
theorem enters_24 : entersB Try.prog 24 = true := by kernel_rfl
theorem enters_29 : entersB Try.prog 29 = true := by kernel_rfl
theorem enters_30 : entersB Try.prog 30 = true := by kernel_rfl
theorem enters_31 : entersB Try.prog 31 = true := by kernel_rfl
theorem enters_36 : entersB Try.prog 36 = true := by kernel_rfl
theorem enters_37 : entersB Try.prog 37 = true := by kernel_rfl
theorem enters_7 : entersB Try.prog 7 = true := by kernel_rfl
theorem enters_9 : entersB Try.prog 9 = true := by kernel_rfl
theorem fldA_41_0 : fldA Try.prog 41 0 = some (0, 32, true) := by kernel_rfl
theorem fldA_41_1 : fldA Try.prog 41 1 = some (32, 1, false) := by kernel_rfl
theorem fldA_43_0 : fldA Try.prog 43 0 = some (0, 1, false) := by kernel_rfl
theorem fldA_43_1 : fldA Try.prog 43 1 = some (1, 1, false) := by kernel_rfl
theorem res_11 : Try.f11.results.toList = [.tmp 2] := rfl
theorem res_13 : Try.f13.results.toList = [.tmp 2] := rfl
theorem res_15 : Try.f15.results.toList = [.tmp 2] := rfl
theorem res_16 : Try.f16.results.toList = [.tmp 2] := rfl
theorem res_20 : Try.f20.results.toList = [.cell 2 46, .tmp 3] := rfl
theorem res_22 : Try.f22.results.toList = [.tmp 4] := rfl
theorem res_23 : Try.f23.results.toList = [.tmp 4] := rfl
theorem res_24 : Try.f24.results.toList = [.tmp 4] := rfl
theorem res_29 : Try.f29.results.toList = [.tmp 2] := rfl
theorem res_31 : Try.f31.results.toList = [.tmp 2] := rfl
theorem res_4 : Try.f4.results.toList = [.tmp 2] := rfl
theorem res_5 : Try.f5.results.toList = [.tmp 2] := rfl
theorem res_6 : Try.f6.results.toList = [.tmp 2] := rfl
theorem res_7 : Try.f7.results.toList = [.tmp 2] := rfl
theorem res_8 : Try.f8.results.toList = [.tmp 4] := rfl
theorem rowA_22 : rowA Try.prog 22 = some (33, 48) := by kernel_rfl
theorem rowA_26 : rowA Try.prog 26 = some (2, 40) := by kernel_rfl
theorem rowA_29 : rowA Try.prog 29 = some (1, 16) := by kernel_rfl
theorem rowA_51 : rowA Try.prog 51 = some (19, 304) := by kernel_rfl
theorem slcA_22 : slcA Try.prog 22 = some (33, 48, true) := by kernel_rfl
theorem slcA_26 : slcA Try.prog 26 = some (2, 40, true) := by kernel_rfl
theorem slcA_29 : slcA Try.prog 29 = some (1, 16, false) := by kernel_rfl
theorem slcA_51 : slcA Try.prog 51 = some (19, 304, true) := by kernel_rfl
theorem tyA_24 : tyA Try.prog 24 = some (true, 32) := by kernel_rfl
theorem tyA_41 : tyA Try.prog 41 = some (true, 33) := by kernel_rfl
theorem tyA_43 : tyA Try.prog 43 = some (true, 2) := by kernel_rfl
theorem tyA_46 : tyA Try.prog 46 = some (true, 19) := by kernel_rfl
theorem under_22 : Program.underlying Try.prog 22 = some (.slice 41) := by kernel_rfl
theorem under_26 : Program.underlying Try.prog 26 = some (.slice 43) := by kernel_rfl
theorem under_29 : Program.underlying Try.prog 29 = some (.slice 9) := by kernel_rfl
theorem under_51 : Program.underlying Try.prog 51 = some (.slice 46) := by kernel_rfl
theorem zeroA_41 : zeroA Try.prog 41 = some [Value.int IntKind.u8 0, Value.int IntKind.u8 0, Value.int IntKind.u8 0, Value.int IntKind.u8 0, Value.int IntKind.u8 0, Value.int IntKind.u8 0, Value.int IntKind.u8 0, Value.int IntKind.u8 0, Value.int IntKind.u8 0, Value.int IntKind.u8 0, Value.int IntKind.u8 0, Value.int IntKind.u8 0, Value.int IntKind.u8 0, Value.int IntKind.u8 0, Value.int IntKind.u8 0, Value.int IntKind.u8 0, Value.int IntKind.u8 0, Value.int IntKind.u8 0, Value.int IntKind.u8 0, Value.int IntKind.u8 0, Value.int IntKind.u8 0, Value.int IntKind.u8 0, Value.int IntKind.u8 0, Value.int IntKind.u8 0, Value.int IntKind.u8 0, Value.int IntKind.u8 0, Value.int IntKind.u8 0, Value.int IntKind.u8 0, Value.int IntKind.u8 0, Value.int IntKind.u8 0, Value.int IntKind.u8 0, Value.int IntKind.u8 0, Value.string ⟨#[]⟩] := by kernel_rfl
theorem zeroA_46 : zeroA Try.prog 46 = some [Value.int IntKind.i64 0, Value.slice none 0 0, Value.string ⟨#[]⟩, Value.string ⟨#[]⟩, Value.string ⟨#[]⟩, Value.string ⟨#[]⟩, Value.string ⟨#[]⟩, Value.string ⟨#[]⟩, Value.string ⟨#[]⟩, Value.string ⟨#[]⟩, Value.string ⟨#[]⟩, Value.string ⟨#[]⟩, Value.string ⟨#[]⟩, Value.string ⟨#[]⟩, Value.string ⟨#[]⟩, Value.string ⟨#[]⟩, Value.string ⟨#[]⟩, Value.string ⟨#[]⟩, Value.string ⟨#[]⟩] := by kernel_rfl
end TT
theorem bld_Pair_0_1 (v0 : (Arr 32 UInt8)) (v1 : (List UInt8)) : (buildP (some ([Value.int IntKind.u8 0, Value.int IntKind.u8 0, Value.int IntKind.u8 0, Value.int IntKind.u8 0, Value.int IntKind.u8 0, Value.int IntKind.u8 0, Value.int IntKind.u8 0, Value.int IntKind.u8 0, Value.int IntKind.u8 0, Value.int IntKind.u8 0, Value.int IntKind.u8 0, Value.int IntKind.u8 0, Value.int IntKind.u8 0, Value.int IntKind.u8 0, Value.int IntKind.u8 0, Value.int IntKind.u8 0, Value.int IntKind.u8 0, Value.int IntKind.u8 0, Value.int IntKind.u8 0, Value.int IntKind.u8 0, Value.int IntKind.u8 0, Value.int IntKind.u8 0, Value.int IntKind.u8 0, Value.int IntKind.u8 0, Value.int IntKind.u8 0, Value.int IntKind.u8 0, Value.int IntKind.u8 0, Value.int IntKind.u8 0, Value.int IntKind.u8 0, Value.int IntKind.u8 0, Value.int IntKind.u8 0, Value.int IntKind.u8 0, Value.string ⟨#[]⟩], .inl [(0, 32), (32, 1)])) [(0, .d (.agg (v0.1.map byteD))), (1, pS v1)]).2 ∧ (buildP (some ([Value.int IntKind.u8 0, Value.int IntKind.u8 0, Value.int IntKind.u8 0, Value.int IntKind.u8 0, Value.int IntKind.u8 0, Value.int IntKind.u8 0, Value.int IntKind.u8 0, Value.int IntKind.u8 0, Value.int IntKind.u8 0, Value.int IntKind.u8 0, Value.int IntKind.u8 0, Value.int IntKind.u8 0, Value.int IntKind.u8 0, Value.int IntKind.u8 0, Value.int IntKind.u8 0, Value.int IntKind.u8 0, Value.int IntKind.u8 0, Value.int IntKind.u8 0, Value.int IntKind.u8 0, Value.int IntKind.u8 0, Value.int IntKind.u8 0, Value.int IntKind.u8 0, Value.int IntKind.u8 0, Value.int IntKind.u8 0, Value.int IntKind.u8 0, Value.int IntKind.u8 0, Value.int IntKind.u8 0, Value.int IntKind.u8 0, Value.int IntKind.u8 0, Value.int IntKind.u8 0, Value.int IntKind.u8 0, Value.int IntKind.u8 0, Value.string ⟨#[]⟩], .inl [(0, 32), (32, 1)])) [(0, .d (.agg (v0.1.map byteD))), (1, pS v1)]).1 = .agg ((cPair (⟨v0, v1⟩ : Pair)).map .d) :=
  build_of rfl (show (fillP _ ((cPair ({ fKey := (Arr.rep 32 (0 : UInt8)), fValue := ([] : (List UInt8)) } : Pair)).map PV.d) _).2 ∧ (fillP _ ((cPair ({ fKey := (Arr.rep 32 (0 : UInt8)), fValue := ([] : (List UInt8)) } : Pair)).map PV.d) _).1 = _ from (fill_step rfl rfl (show ((v0.1.map byteD).map PV.d).length = 32 by rw [List.length_map, List.length_map, v0.2]) (by rw [List.length_map, lay_Pair.len]; decide) (spl_Pair_0 _ v0) (fill_step rfl rfl rfl (by rw [List.length_map, lay_Pair.len]; decide) (spl_Pair_1 _ v1) fill_nil)))
inductive C_law08_Pairs where
  | S
  | L1 (v3 : (List Pair)) (v4 : Int)
noncomputable def step_law08_Pairs (l0 : (List Pair)) : C_law08_Pairs → Option (C_law08_Pairs ⊕ (List Pair))
  | .S =>
    some (.inl (.L1 ([] : (List Pair)) (0)))
  | .L1 v3 v4 =>
    (bif ((decide (v4 < (l0.length : Int))) && (decide (v4 < (24 : Int)))) then
    gO (0 ≤ v4 ∧ v4 < (l0.length : Int)) (
    (((bif ((idx l0 v4).fValue == ([] : List UInt8)) then
    some (⟨(idx l0 v4).fKey, ([118] : List UInt8)⟩ : Pair)
    else
    some (idx l0 v4)) : Option Pair).bind fun (v5_11 : Pair) =>
    (((bif (decide ((100 : Int) < ((v5_11.fValue).length : Int))) then
    gO (0 ≤ (0 : Int) ∧ (0 : Int) ≤ (100 : Int) ∧ (100 : Int) ≤ ((v5_11.fValue).length : Int)) (
    some (⟨v5_11.fKey, (sub (v5_11.fValue) (0 : Int) (100 : Int))⟩ : Pair))
    else
    some v5_11) : Option Pair).bind fun (v5_12 : Pair) =>
    gO ((v3.length + ([v5_12] : List Pair).length) * 48 ≤ 140737488355328) (
    gO (inI (v4 + (1 : Int))) (
    some (.inl (.L1 (v3 ++ ([v5_12] : List Pair)) (v4 + (1 : Int)))))))))
    else
    some (.inr v3))
noncomputable def g_law08_Pairs (l0 : (List Pair)) : Option (List Pair) := theC (step_law08_Pairs l0) .S
theorem sim_law08_Pairs (l0 : (List Pair)) (r : (List Pair)) (h : g_law08_Pairs l0 = some r) : Fun Try.prog 4 [.slice (l0.map ePair)] (.slice (r.map ePair)) := by
  refine Fun.of_bodyQ Try.func4 rfl (by simp [Try.ntmps4]) ?_
  rw [Try.ntmps4, TT.res_4]
  refine QW.view (s' := ⟨tab [(0, .d (.slice (l0.map ePair)))], tabH [], 0, []⟩) (View.init (by rfl)) zL ?_
  replace h := theC_get h
  obtain ⟨_, h⟩ := h
  obtain ⟨k_0, rfl, h9⟩ := run_succ h; replace h := h9; clear h9; rw [step_law08_Pairs] at h
  refine sR ?_
  refine xz 2 (.full (([] : (List Pair)).map ePair)) ?_
  refine sR ?_
  refine xz 3 (.full (([] : (List Pair)).map ePair)) ?_
  refine QW.seq ?_
  refine sR ?_
  refine xz 4 (pI (0)) ?_
  refine QW.block ?_
  refine QW.loop (fun k σ => ∃ v3 : (List Pair), ∃ v4 : Int, k ≤ k_0 ∧ run (step_law08_Pairs l0) k (.L1 v3 v4) = some r ∧ σ = ⟨tab [(0, .d (.slice (l0.map ePair))), (3, .own 0 (v3.map ePair)), (4, pI v4)], tabH [.spare 33 v3.length], 1, []⟩) k_0 zL ⟨⟨tab [(0, .d (.slice (l0.map ePair))), (3, .own 0 (([] : (List Pair)).map ePair)), (4, pI (0))], tabH [.spare 33 ([] : (List Pair)).length], 1, []⟩, View.trans (View.buf 3 33 rfl zL) (View.mk 1 [0] _ _ _ rfl rfl (by decide) (iC (iC (iC trivial))) (And.intro rfl trivial) rfl zL rfl), ([] : (List Pair)), 0, Nat.le_refl _, jG h, rfl⟩ ?_
  rintro k_1s _ ⟨v3, v4, k_1h, h, rfl⟩
  obtain ⟨k_1, rfl, h9⟩ := run_succ h; replace h := h9; clear h9; rw [step_law08_Pairs] at h
  refine QW.seq ?_
  refine sR ?_
  refine xm 6 (pI v4) ?_
  refine xm 7 (.d (.slice (l0.map ePair))) ?_
  refine xs 8 rfl (sf_lenL (en := ePair) (l := l0) rfl TT.under_22 rfl ?_)
  refine xs 9 rfl (sf_lss (a := v4) (b := (l0.length : Int)) rfl rfl rfl ?_)
  refine xm 10 (pB (decide (v4 < (l0.length : Int)))) ?_
  refine xg 11 (pI v4) rfl rfl (fun hg => sf_move (v := pI v4) rfl rfl g3) ?_
  refine xg 12 (pB (decide (v4 < (24 : Int)))) rfl rfl (fun hg => sf_lss (a := v4) (b := (24 : Int)) rfl rfl rfl g3) ?_
  refine xs 13 rfl (sf_pickA rfl rfl rfl rfl (fun hb => by rw [hb]; rfl) (fun _ => rfl) ?_)
  refine XK.nz ?_
  refine QW.cond (t := ((decide (v4 < (l0.length : Int))) && (decide (v4 < (24 : Int))))) rfl zL (fun hb_2 => ?_) (fun hb_2 => ?_)
  · replace h := bGT h hb_2
    refine QW.skip zL (nrm ?_)
    refine QW.seq ?_
    refine QW.block ?_
    refine sR ?_
    refine xm 16 (.d (.slice (l0.map ePair))) ?_
    refine xm 17 (pI v4) ?_
    obtain ⟨c_3, h⟩ := gG h
    refine xs 18 rfl (sf_idxA (l := l0) (i := v4) rfl TT.slcA_22 lay_Pair rfl rfl c_3 ?_)
    refine xs 19 rfl (sf_ldC (d := .agg (cPair (idx l0 v4))) rfl TT.tyA_41 rfl (⟨by rw [lay_Pair.len]; decide, congrArg D.agg (List.take_of_length_le (by rw [lay_Pair.len]; decide))⟩) ?_)
    refine xs 5 rfl (sf_alloc (l := ((cPair (⟨(Arr.rep 32 (0 : UInt8)), ([] : (List UInt8))⟩ : Pair)).map .d)) rfl TT.zeroA_41 rfl rfl ?_)
    refine XK.st none rfl rfl (sf_stV (l' := ((cPair (idx l0 v4)).map .d)) rfl TT.tyA_41 rfl rfl rfl rfl rfl (len_dd (lay_Pair.len _)) (le_dd (lay_Pair.len _)) (spl_dd ((lay_Pair.len _).trans (lay_Pair.len _).symm)) ?_)
    refine XK.nz ?_
    obtain ⟨v5_11, hq, h⟩ := bG h
    refine QW.seqI (fun s' => s' = ⟨tab [(0, .d (.slice (l0.map ePair))), (3, .own 0 (v3.map ePair)), (4, pI v4), (5, .vptr 1 0)], tabH [.spare 33 v3.length, .var ((cPair v5_11).map .d)], 2, []⟩) ?_ ?_
    · replace h := hq; clear hq
      refine sR ?_
      refine xs 20 rfl (sf_fldV rfl TT.fldA_41_1 (by decide) rfl ?_)
      refine xs 21 rfl (sf_ldV (v := pS ((idx l0 v4).fValue)) rfl TT.tyA_9 rfl rfl (ldv_ldc (ldc_Pair_1 _) (by rw [lay_Pair.len]; decide) (by decide)) ?_)
      refine xs 22 rfl (sf_seq (a := (idx l0 v4).fValue) (b := ([] : List UInt8)) rfl rfl rfl ?_)
      refine XK.nz ?_
      refine QW.cond (t := ((idx l0 v4).fValue == ([] : List UInt8))) rfl zL (fun hb_4 => ?_) (fun hb_4 => ?_)
      · replace h := bT h hb_4
        refine rG ?_
        refine xs 23 rfl (sf_fldV rfl TT.fldA_41_0 (by decide) rfl ?_)
        refine XK.as (some 24) rfl rfl (sf_ldV rfl TT.tyA_24 rfl rfl (ldv_ldcA (ldc_Pair_0 _) (by rw [lay_Pair.len]; decide) (by decide)) ⟨.d (.agg (((idx l0 v4).fKey).1.map byteD)), imp_arr, ?_⟩)
        refine XK.as (some 25) rfl rfl (sf_bld (v := .agg ((cPair (⟨(idx l0 v4).fKey, ([118] : List UInt8)⟩ : Pair)).map .d)) rfl TT.bldA_41 (bld_Pair_0_1 ((idx l0 v4).fKey) ([118] : List UInt8)) ⟨.d (.agg (cPair (⟨(idx l0 v4).fKey, ([118] : List UInt8)⟩ : Pair))), imp_arr, ?_⟩)
        refine XK.st none rfl rfl (sf_stV (l' := ((cPair (⟨(idx l0 v4).fKey, ([118] : List UInt8)⟩ : Pair)).map .d)) rfl TT.tyA_41 rfl rfl rfl rfl rfl (len_dd (lay_Pair.len _)) (le_dd (lay_Pair.len _)) (spl_dd ((lay_Pair.len _).trans (lay_Pair.len _).symm)) ?_)
        refine XK.nz ?_
        obtain rfl := sO h
        exact ⟨⟨tab [(0, .d (.slice (l0.map ePair))), (3, .own 0 (v3.map ePair)), (4, pI v4), (5, .vptr 1 0)], tabH [.spare 33 v3.length, .var ((cPair (⟨(idx l0 v4).fKey, ([118] : List UInt8)⟩ : Pair)).map .d)], 2, []⟩, View.mk 2 [0, 1] _ _ _ rfl rfl (by decide) (iC (iC (iC (iC trivial)))) (And.intro rfl (And.intro (by simp only [atH1, rowC, PV.res_d]; rfl) trivial)) rfl zL rfl, rfl⟩
      · replace h := bF h hb_4
        refine QW.skip zL (nrm ?_)
        obtain rfl := sO h
        exact ⟨⟨tab [(0, .d (.slice (l0.map ePair))), (3, .own 0 (v3.map ePair)), (4, pI v4), (5, .vptr 1 0)], tabH [.spare 33 v3.length, .var ((cPair (idx l0 v4)).map .d)], 2, []⟩, View.mk 2 [0, 1] _ _ _ rfl rfl (by decide) (iC (iC (iC (iC trivial)))) (And.intro rfl (And.intro (by simp only [atH1, rowC, PV.res_d]; rfl) trivial)) rfl zL rfl, rfl⟩
    · rintro _ rfl
      obtain ⟨v5_12, hq, h⟩ := bG h
      refine QW.seqI (fun s' => s' = ⟨tab [(0, .d (.slice (l0.map ePair))), (3, .own 0 (v3.map ePair)), (4, pI v4), (5, .vptr 1 0)], tabH [.spare 33 v3.length, .var ((cPair v5_12).map .d)], 2, []⟩) ?_ ?_
      · replace h := hq; clear hq
        refine sR ?_
        refine xs 26 rfl (sf_fldV rfl TT.fldA_41_1 (by decide) rfl ?_)
        refine xs 27 rfl (sf_ldV (v := pS (v5_11.fValue)) rfl TT.tyA_9 rfl rfl (ldv_ldc (ldc_Pair_1 _) (by rw [lay_Pair.len]; decide) (by decide)) ?_)
        refine xs 28 rfl (sf_lenS (l := v5_11.fValue) rfl TT.under_9 rfl ?_)
        refine xs 29 rfl (sf_gtr (a := ((v5_11.fValue).length : Int)) (b := (100 : Int)) rfl rfl rfl ?_)
        refine XK.nz ?_
        refine QW.cond (t := (decide ((100 : Int) < ((v5_11.fValue).length : Int)))) rfl zL (fun hb_5 => ?_) (fun hb_5 => ?_)
        · replace h := bT h hb_5
          refine QW.region zL (PW.regK (id := 9) mixedX (M := _) rfl (by kernel_rfl) ?_)
          refine RK.st (some 30) rfl rfl (sf_fldV rfl TT.fldA_41_0 (by decide) rfl ?_)
          refine RK.as (some 31) rfl rfl (sf_ldV rfl TT.tyA_24 rfl rfl (ldv_ldcA (ldc_Pair_0 _) (by rw [lay_Pair.len]; decide) (by decide)) ⟨.d (.agg ((v5_11.fKey).1.map byteD)), imp_arr, ?_⟩)
          refine RK.st (some 32) rfl rfl (sf_fldV rfl TT.fldA_41_1 (by decide) rfl ?_)
          refine RK.st (some 33) rfl rfl (sf_ldV (v := pS (v5_11.fValue)) rfl TT.tyA_9 rfl rfl (ldv_ldc (ldc_Pair_1 _) (by rw [lay_Pair.len]; decide) (by decide)) ?_)
          obtain ⟨c_6, h⟩ := gO_get h
          refine RK.st (some 34) rfl rfl (sf_subS (l := v5_11.fValue) (a := (0 : Int)) (b := (100 : Int)) rfl TT.under_9 rfl rfl rfl c_6 ?_)
          refine RK.as (some 35) rfl rfl (sf_bld (v := .agg ((cPair (⟨v5_11.fKey, (sub (v5_11.fValue) (0 : Int) (100 : Int))⟩ : Pair)).map .d)) rfl TT.bldA_41 (bld_Pair_0_1 (v5_11.fKey) (sub (v5_11.fValue) (0 : Int) (100 : Int))) ⟨.d (.agg (cPair (⟨v5_11.fKey, (sub (v5_11.fValue) (0 : Int) (100 : Int))⟩ : Pair))), imp_arr, ?_⟩)
          refine RK.st none rfl rfl (sf_stV (l' := ((cPair (⟨v5_11.fKey, (sub (v5_11.fValue) (0 : Int) (100 : Int))⟩ : Pair)).map .d)) rfl TT.tyA_41 rfl rfl rfl rfl rfl (len_dd (lay_Pair.len _)) (le_dd (lay_Pair.len _)) (spl_dd ((lay_Pair.len _).trans (lay_Pair.len _).symm)) ?_)
          refine RK.nil ⟨RecsOK.comp (by rfl), (nrm ?_)⟩
          obtain rfl := sO h
          exact ⟨⟨tab [(0, .d (.slice (l0.map ePair))), (3, .own 0 (v3.map ePair)), (4, pI v4), (5, .vptr 1 0)], tabH [.spare 33 v3.length, .var ((cPair (⟨v5_11.fKey, (sub (v5_11.fValue) (0 : Int) (100 : Int))⟩ : Pair)).map .d)], 2, []⟩, View.mk 2 [0, 1] _ _ _ rfl rfl (by decide) (iC (iC (iC (iC trivial)))) (And.intro rfl (And.intro (by simp only [atH1, rowC, PV.res_d]; rfl) trivial)) rfl zL rfl, rfl⟩
        · replace h := bF h hb_5
          refine QW.skip zL (nrm ?_)
          obtain rfl := sO h
          exact ⟨⟨tab [(0, .d (.slice (l0.map ePair))), (3, .own 0 (v3.map ePair)), (4, pI v4), (5, .vptr 1 0)], tabH [.spare 33 v3.length, .var ((cPair v5_11).map .d)], 2, []⟩, View.mk 2 [0, 1] _ _ _ rfl rfl (by decide) (iC (iC (iC (iC trivial)))) (And.intro rfl (And.intro (by simp only [atH1, rowC, PV.res_d]; rfl) trivial)) rfl zL rfl, rfl⟩
      · rintro _ rfl
        refine rG ?_
        refine xm 36 (.own 0 (v3.map ePair)) ?_
        refine XK.as (some 37) rfl rfl (sf_ldV (v := .agg ((cPair v5_12).map .d)) rfl TT.tyA_41 rfl rfl (ldv_dd (lay_Pair.len _) (by decide)) ⟨.d (.agg (cPair v5_12)), imp_arr, ?_⟩)
        refine xs 38 rfl (sf_row (en := ePair) (l := ([v5_12] : List Pair)) rfl TT.rowA_22 lay_Pair (by first | rfl | (simp only [List.map_cons, List.map_nil, ePair_eq]; rfl)) rfl (by decide) (by simp [solids, partsP, evP, ofVal, PV.solid, putS_at, tab, unS, unT, unC, asCond, Value.oneCell']) ?_)
        obtain ⟨c_7, h⟩ := gG h
        refine xs 39 rfl (sf_appO (en := ePair) (l := v3) (l2 := ([v5_12] : List Pair)) rfl TT.rowA_22 TT.under_22 rfl lay_Pair rfl rfl rfl c_7 (by decide) ?_)
        refine xa 3 (.own 2 ((v3 ++ ([v5_12] : List Pair)).map ePair)) ?_
        refine XK.nil (blN (nrm ?_))
        refine rG ?_
        refine xm 14 (pI v4) ?_
        obtain ⟨c_8, h⟩ := gG h
        refine xs 15 rfl (sf_add (a := v4) (b := (1 : Int)) rfl rfl rfl c_8 ?_)
        refine xz 4 (pI (v4 + (1 : Int))) ?_
        exact ⟨k_1, by omega, ⟨tab [(0, .d (.slice (l0.map ePair))), (3, .own 0 ((v3 ++ ([v5_12] : List Pair)).map ePair)), (4, pI (v4 + (1 : Int)))], tabH [.spare 33 (v3 ++ ([v5_12] : List Pair)).length], 1, []⟩, View.mk 1 [2] _ _ _ rfl rfl (by decide) (iC (iC (iC trivial))) (And.intro rfl trivial) rfl zL rfl, (v3 ++ ([v5_12] : List Pair)), (v4 + (1 : Int)), by omega, jG h, rfl⟩
  · replace h := bGF h hb_2
    refine QW.exit zL (thX (thX (exE (nrm ?_))))
    refine sR ?_
    refine xm 40 (.own 0 (v3.map ePair)) ?_
    refine xz 2 (.own 0 (v3.map ePair)) ?_
    refine QW.ret zL ?_
    obtain rfl := sG h
    exact Ends.one (.inr rfl) rfl (ResIs.tmp rfl) rfl rfl
inductive C_ref08_Ins where
  | S
  | L1 (v3_2 : (List In)) (v4 : Int)
  | L3 (v3_13 : (List In)) (v4_12 : Int) (v5_7 : Bool) (v6_10 : Int)
  | J2 (v3_11 : (List In)) (v4_10 : Int)
noncomputable def step_ref08_Ins (l0 : (List Pair)) : C_ref08_Ins → Option (C_ref08_Ins ⊕ (List In))
  | .S =>
    some (.inl (.L1 ([] : (List In)) (0)))
  | .L1 v3_2 v4 =>
    (bif (decide (v4 < (l0.length : Int))) then
    gO (inI (v4 + (1 : Int))) (
    some (.inl (.L3 v3_2 v4 true (v4 + (1 : Int)))))
    else
    some (.inr v3_2))
  | .L3 v3_13 v4_12 v5_7 v6_10 =>
    (bif (decide (v6_10 < (l0.length : Int))) then
    gO (v5_7 = true → 0 ≤ v6_10 ∧ v6_10 < (l0.length : Int)) (
    gO (v5_7 = true → 0 ≤ v4_12 ∧ v4_12 < (l0.length : Int)) (
    gO (inI (v6_10 + (1 : Int))) (
    some (.inl (.L3 v3_13 v4_12 (v5_7 && (!(((idx l0 v6_10).fKey).1 == ((idx l0 v4_12).fKey).1))) (v6_10 + (1 : Int)))))))
    else
    (bif v5_7 then
    gO (0 ≤ v4_12 ∧ v4_12 < (l0.length : Int)) (
    ((g_ref02_Path ((idx l0 v4_12).fKey)).bind fun (x_11 : (List UInt8)) =>
    gO (0 ≤ v4_12 ∧ v4_12 < (l0.length : Int)) (
    gO ((v3_13.length + ([(⟨x_11, (idx l0 v4_12).fValue⟩ : In)] : List In).length) * 40 ≤ 140737488355328) (
    some (.inl (.J2 (v3_13 ++ ([(⟨x_11, (idx l0 v4_12).fValue⟩ : In)] : List In)) v4_12))))))
    else
    some (.inl (.J2 v3_13 v4_12))))
  | .J2 v3_11 v4_10 =>
    gO (inI (v4_10 + (1 : Int))) (
    some (.inl (.L1 v3_11 (v4_10 + (1 : Int)))))
noncomputable def g_ref08_Ins (l0 : (List Pair)) : Option (List In) := theC (step_ref08_Ins l0) .S
theorem sim_ref08_Ins (l0 : (List Pair)) (r : (List In)) (h : g_ref08_Ins l0 = some r) : Fun Try.prog 5 [.slice (l0.map ePair)] (.slice (r.map eIn)) := by
  refine Fun.of_bodyQ Try.func5 rfl (by simp [Try.ntmps5]) ?_
  rw [Try.ntmps5, TT.res_5]
  refine QW.view (s' := ⟨tab [(0, .d (.slice (l0.map ePair)))], tabH [], 0, []⟩) (View.init (by rfl)) zL ?_
  replace h := theC_get h
  obtain ⟨_, h⟩ := h
  obtain ⟨k_0, rfl, h9⟩ := run_succ h; replace h := h9; clear h9; rw [step_ref08_Ins] at h
  refine sR ?_
  refine xz 2 (.full (([] : (List In)).map eIn)) ?_
  refine sR ?_
  refine xz 3 (.full (([] : (List In)).map eIn)) ?_
  refine QW.seq ?_
  refine sR ?_
  refine xz 4 (pI (0)) ?_
  refine QW.block ?_
  refine QW.loop (fun k σ => ∃ v3_2 : (List In), ∃ v4 : Int, k ≤ k_0 ∧ run (step_ref08_Ins l0) k (.L1 v3_2 v4) = some r ∧ σ = ⟨tab [(0, .d (.slice (l0.map ePair))), (3, .own 0 (v3_2.map eIn)), (4, pI v4)], tabH [.spare 2 v3_2.length], 1, []⟩) k_0 zL ⟨⟨tab [(0, .d (.slice (l0.map ePair))), (3, .own 0 (([] : (List In)).map eIn)), (4, pI (0))], tabH [.spare 2 ([] : (List In)).length], 1, []⟩, View.trans (View.buf 3 2 rfl zL) (View.mk 1 [0] _ _ _ rfl rfl (by decide) (iC (iC (iC trivial))) (And.intro rfl trivial) rfl zL rfl), ([] : (List In)), 0, Nat.le_refl _, jG h, rfl⟩ ?_
  rintro k_1s _ ⟨v3_2, v4, k_1h, h, rfl⟩
  obtain ⟨k_1, rfl, h9⟩ := run_succ h; replace h := h9; clear h9; rw [step_ref08_Ins] at h
  refine QW.seq ?_
  refine sR ?_
  refine xm 7 (pI v4) ?_
  refine xm 8 (.d (.slice (l0.map ePair))) ?_
  refine xs 9 rfl (sf_lenL (en := ePair) (l := l0) rfl TT.under_22 rfl ?_)
  refine xs 10 rfl (sf_lss (a := v4) (b := (l0.length : Int)) rfl rfl rfl ?_)
  refine XK.nz ?_
  refine QW.cond (t := (decide (v4 < (l0.length : Int)))) rfl zL (fun hb_2 => ?_) (fun hb_2 => ?_)
  · replace h := bGT h hb_2
    refine QW.skip zL (nrm ?_)
    refine QW.seqI (fun s' => ∃ v3_11 : (List In), ∃ v4_10 : Int, ∃ k : Nat, k ≤ k_1 ∧ run (step_ref08_Ins l0) k (.J2 v3_11 v4_10) = some r ∧ s' = ⟨tab [(0, .d (.slice (l0.map ePair))), (3, .own 0 (v3_11.map eIn)), (4, pI v4_10)], tabH [.spare 2 v3_11.length], 1, []⟩) ?_ ?_
    · refine QW.block ?_
      refine sR ?_
      refine xz 5 (pB true) ?_
      refine QW.seq ?_
      refine sR ?_
      refine xm 13 (pI v4) ?_
      obtain ⟨c_3, h⟩ := gG h
      refine xs 14 rfl (sf_add (a := v4) (b := (1 : Int)) rfl rfl rfl c_3 ?_)
      refine xz 6 (pI (v4 + (1 : Int))) ?_
      refine QW.block ?_
      refine QW.loop (fun k σ => ∃ v3_13 : (List In), ∃ v4_12 : Int, ∃ v5_7 : Bool, ∃ v6_10 : Int, k ≤ k_1 ∧ run (step_ref08_Ins l0) k (.L3 v3_13 v4_12 v5_7 v6_10) = some r ∧ σ = ⟨tab [(0, .d (.slice (l0.map ePair))), (3, .own 0 (v3_13.map eIn)), (4, pI v4_12), (5, pB v5_7), (6, pI v6_10)], tabH [.spare 2 v3_13.length], 1, []⟩) k_1 zL ⟨⟨tab [(0, .d (.slice (l0.map ePair))), (3, .own 0 (v3_2.map eIn)), (4, pI v4), (5, pB true), (6, pI (v4 + (1 : Int)))], tabH [.spare 2 v3_2.length], 1, []⟩, View.mk 1 [0] _ _ _ rfl rfl (by decide) (iC (iC (iC (iC (iC trivial))))) (And.intro rfl trivial) rfl zL rfl, v3_2, v4, true, (v4 + (1 : Int)), Nat.le_refl _, jG h, rfl⟩ ?_
      rintro k_4s _ ⟨v3_13, v4_12, v5_7, v6_10, k_4h, h, rfl⟩
      obtain ⟨k_4, rfl, h9⟩ := run_succ h; replace h := h9; clear h9; rw [step_ref08_Ins] at h
      refine QW.seq ?_
      refine sR ?_
      refine xm 15 (pI v6_10) ?_
      refine xm 16 (.d (.slice (l0.map ePair))) ?_
      refine xs 17 rfl (sf_lenL (en := ePair) (l := l0) rfl TT.under_22 rfl ?_)
      refine xs 18 rfl (sf_lss (a := v6_10) (b := (l0.length : Int)) rfl rfl rfl ?_)
      refine XK.nz ?_
      refine QW.cond (t := (decide (v6_10 < (l0.length : Int)))) rfl zL (fun hb_5 => ?_) (fun hb_5 => ?_)
      · replace h := bGT h hb_5
        refine QW.skip zL (nrm ?_)
        refine QW.seq ?_
        refine QW.block ?_
        refine QW.region zL (PW.regQ (id := 9) mixedX (M := _) rfl (by kernel_rfl) ?_)
        refine RQ.st (some 21) rfl rfl (sf_move (v := pB v5_7) rfl rfl ⟨⟨rfl, rfl⟩, ?_⟩)
        refine RQ.st (some 22) rfl rfl (sf_move (v := pB v5_7) rfl rfl ⟨⟨rfl, rfl⟩, ?_⟩)
        refine RQ.gd (v := .d (.slice (l0.map ePair))) (T := []) (some 23) rfl rfl (by repeat (first | exact trivial | refine ⟨fun q => by first | rfl | exact q | exact cda q | exact cdb q, ?_⟩)) (fun hg => sf_move (v := .d (.slice (l0.map ePair))) rfl rfl g3) nm0 ?_
        refine RQ.gd (v := pI v6_10) (T := []) (some 24) rfl rfl (by repeat (first | exact trivial | refine ⟨fun q => by first | rfl | exact q | exact cda q | exact cdb q, ?_⟩)) (fun hg => sf_move (v := pI v6_10) rfl rfl g3) nm0 ?_
        obtain ⟨c_6, h⟩ := gG h
        refine RQ.gd (v := .d (.cptr (cPair (idx l0 v6_10)))) (T := []) (some 25) rfl rfl (by repeat (first | exact trivial | refine ⟨fun q => by first | rfl | exact q | exact cda q | exact cdb q, ?_⟩)) (fun hg => sf_idxA (l := l0) (i := v6_10) rfl TT.slcA_22 lay_Pair rfl rfl (c_6 (eqB hg)) g3) nm0 ?_
        refine RQ.gd (v := .d (.cptr ((cPair (idx l0 v6_10)).drop 0))) (T := []) (some 26) rfl rfl (by repeat (first | exact trivial | refine ⟨fun q => by first | rfl | exact q | exact cda q | exact cdb q, ?_⟩)) (fun hg => sf_fldC rfl TT.fldA_41_0 (by decide) rfl g3) nm0 ?_
        refine RQ.gd (v := .d (.agg (((idx l0 v6_10).fKey).1.map byteD))) (T := []) (some 27) rfl rfl (by repeat (first | exact trivial | refine ⟨fun q => by first | rfl | exact q | exact cda q | exact cdb q, ?_⟩)) (fun hg => sf_ldC (d := .agg (((idx l0 v6_10).fKey).1.map byteD)) rfl TT.tyA_24 rfl (ldc_Pair_0 _) g3) nm0 ?_
        refine RQ.gd (v := .d (.slice (l0.map ePair))) (T := []) (some 28) rfl rfl (by repeat (first | exact trivial | refine ⟨fun q => by first | rfl | exact q | exact cda q | exact cdb q, ?_⟩)) (fun hg => sf_move (v := .d (.slice (l0.map ePair))) rfl rfl g3) nm0 ?_
        refine RQ.gd (v := pI v4_12) (T := []) (some 29) rfl rfl (by repeat (first | exact trivial | refine ⟨fun q => by first | rfl | exact q | exact cda q | exact cdb q, ?_⟩)) (fun hg => sf_move (v := pI v4_12) rfl rfl g3) nm0 ?_
        obtain ⟨c_7, h⟩ := gG h
        refine RQ.gd (v := .d (.cptr (cPair (idx l0 v4_12)))) (T := []) (some 30) rfl rfl (by repeat (first | exact trivial | refine ⟨fun q => by first | rfl | exact q | exact cda q | exact cdb q, ?_⟩)) (fun hg => sf_idxA (l := l0) (i := v4_12) rfl TT.slcA_22 lay_Pair rfl rfl (c_7 (eqB hg)) g3) nm0 ?_
        refine RQ.gd (v := .d (.cptr ((cPair (idx l0 v4_12)).drop 0))) (T := []) (some 31) rfl rfl (by repeat (first | exact trivial | refine ⟨fun q => by first | rfl | exact q | exact cda q | exact cdb q, ?_⟩)) (fun hg => sf_fldC rfl TT.fldA_41_0 (by decide) rfl g3) nm0 ?_
        refine RQ.gd (v := .d (.agg (((idx l0 v4_12).fKey).1.map byteD))) (T := []) (some 32) rfl rfl (by repeat (first | exact trivial | refine ⟨fun q => by first | rfl | exact q | exact cda q | exact cdb q, ?_⟩)) (fun hg => sf_ldC (d := .agg (((idx l0 v4_12).fKey).1.map byteD)) rfl TT.tyA_24 rfl (ldc_Pair_0 _) g3) nm0 ?_
        refine RQ.gd (v := pB (!(((idx l0 v6_10).fKey).1 == ((idx l0 v4_12).fKey).1))) (T := []) (some 33) rfl rfl (by repeat (first | exact trivial | refine ⟨fun q => by first | rfl | exact q | exact cda q | exact cdb q, ?_⟩)) (fun hg => sf_arrne (p := (idx l0 v6_10).fKey) (q := (idx l0 v4_12).fKey) rfl TT.arrB_24_32 rfl rfl g3) nm0 ?_
        refine RQ.st (some 34) rfl rfl (sf_pickA rfl rfl rfl rfl (fun hb => by rw [hb]; rfl) (fun _ => rfl) ⟨⟨rfl, rfl⟩, ?_⟩)
        refine RQ.st (some 5) rfl rfl (sf_assign (v := pB (v5_7 && (!(((idx l0 v6_10).fKey).1 == ((idx l0 v4_12).fKey).1)))) rfl rfl ⟨⟨rfl, rfl⟩, ?_⟩)
        refine RQ.nil (blN (nrm ?_))
        refine QW.view (s' := ⟨tab [(0, .d (.slice (l0.map ePair))), (3, .own 0 (v3_13.map eIn)), (4, pI v4_12), (5, pB (v5_7 && (!(((idx l0 v6_10).fKey).1 == ((idx l0 v4_12).fKey).1)))), (6, pI v6_10)], tabH [.spare 2 v3_13.length], 1, []⟩) (View.mk 1 [0] _ _ _ rfl rfl (by decide) (iC (iC (iC (iC (iC trivial))))) (And.intro rfl trivial) rfl zL rfl) zL ?_
        refine rG ?_
        refine xm 19 (pI v6_10) ?_
        obtain ⟨c_8, h⟩ := gG h
        refine xs 20 rfl (sf_add (a := v6_10) (b := (1 : Int)) rfl rfl rfl c_8 ?_)
        refine xz 6 (pI (v6_10 + (1 : Int))) ?_
        exact ⟨k_4, by omega, ⟨tab [(0, .d (.slice (l0.map ePair))), (3, .own 0 (v3_13.map eIn)), (4, pI v4_12), (5, pB (v5_7 && (!(((idx l0 v6_10).fKey).1 == ((idx l0 v4_12).fKey).1)))), (6, pI (v6_10 + (1 : Int)))], tabH [.spare 2 v3_13.length], 1, []⟩, View.mk 1 [0] _ _ _ rfl rfl (by decide) (iC (iC (iC (iC (iC trivial))))) (And.intro rfl trivial) rfl zL rfl, v3_13, v4_12, (v5_7 && (!(((idx l0 v6_10).fKey).1 == ((idx l0 v4_12).fKey).1))), (v6_10 + (1 : Int)), by omega, jG h, rfl⟩
      · replace h := bGF h hb_5
        refine QW.exit zL (thX (thX (exE (nrm ?_))))
        refine sR ?_
        refine xm 35 (pB v5_7) ?_
        refine XK.nz ?_
        refine QW.cond (t := v5_7) rfl zL (fun hb_9 => ?_) (fun hb_9 => ?_)
        · replace h := bGT h hb_9
          refine QW.region zL (PW.regK (id := 11) mixedX (M := _) rfl (by kernel_rfl) ?_)
          refine RK.st (some 36) rfl rfl (sf_move (v := .own 0 (v3_13.map eIn)) rfl rfl ?_)
          refine RK.st (some 37) rfl rfl (sf_move (v := .d (.slice (l0.map ePair))) rfl rfl ?_)
          refine RK.st (some 38) rfl rfl (sf_move (v := pI v4_12) rfl rfl ?_)
          obtain ⟨c_10, h⟩ := gG h
          refine RK.st (some 39) rfl rfl (sf_idxA (l := l0) (i := v4_12) rfl TT.slcA_22 lay_Pair rfl rfl c_10 ?_)
          refine RK.st (some 40) rfl rfl (sf_fldC rfl TT.fldA_41_0 (by decide) rfl ?_)
          refine RK.st (some 41) rfl rfl (sf_ldC (d := .agg (((idx l0 v4_12).fKey).1.map byteD)) rfl TT.tyA_24 rfl (ldc_Pair_0 _) ?_)
          obtain ⟨x_11, hx_12, h⟩ := bG h
          refine RK.st (some 42) rfl rfl (sf_call rfl rfl TT.enters_9 rfl (sim_ref02_Path ((idx l0 v4_12).fKey) _ hx_12) ?_)
          refine RK.st (some 43) rfl rfl (sf_move (v := .d (.slice (l0.map ePair))) rfl rfl ?_)
          refine RK.st (some 44) rfl rfl (sf_move (v := pI v4_12) rfl rfl ?_)
          obtain ⟨c_13, h⟩ := gG h
          refine RK.st (some 45) rfl rfl (sf_idxA (l := l0) (i := v4_12) rfl TT.slcA_22 lay_Pair rfl rfl c_13 ?_)
          refine RK.st (some 46) rfl rfl (sf_fldC rfl TT.fldA_41_1 (by decide) rfl ?_)
          refine RK.st (some 47) rfl rfl (sf_ldC (d := .val (sV ((idx l0 v4_12).fValue))) rfl TT.tyA_9 rfl (ldc_Pair_1 _) ?_)
          refine RK.st (some 48) rfl rfl (sf_bld (v := .agg [.d (.slice (x_11.map byteD)), pS ((idx l0 v4_12).fValue)]) rfl TT.bldA_43 (build_of rfl (fill_step (cells' := [.d (.slice (x_11.map byteD)), pS ([] : List UInt8)]) rfl rfl rfl bL rfl (fill_step (cells' := [.d (.slice (x_11.map byteD)), pS ((idx l0 v4_12).fValue)]) rfl rfl rfl bL rfl fill_nil))) ?_)
          refine RK.st (some 49) rfl rfl (sf_row (en := eIn) (l := ([(⟨x_11, (idx l0 v4_12).fValue⟩ : In)] : List In)) rfl TT.rowA_26 lay_In (by first | rfl | (simp only [List.map_cons, List.map_nil, eIn_eq]; rfl)) rfl (by decide) (by simp [solids, partsP, evP, ofVal, PV.solid, putS_at, tab, unS, unT, unC, asCond, Value.oneCell']) ?_)
          obtain ⟨c_14, h⟩ := gG h
          refine RK.st (some 50) rfl rfl (sf_appO (en := eIn) (l := v3_13) (l2 := ([(⟨x_11, (idx l0 v4_12).fValue⟩ : In)] : List In)) rfl TT.rowA_26 TT.under_26 rfl lay_In rfl rfl rfl c_14 (by decide) ?_)
          refine RK.st (some 3) rfl rfl (sf_assign (v := .own 1 ((v3_13 ++ ([(⟨x_11, (idx l0 v4_12).fValue⟩ : In)] : List In)).map eIn)) rfl rfl ?_)
          refine RK.nil ⟨RecsOK.last 14 (by simp) (by simp) (by rfl), (blN (nrm ?_))⟩
          exact ⟨⟨tab [(0, .d (.slice (l0.map ePair))), (3, .own 0 ((v3_13 ++ ([(⟨x_11, (idx l0 v4_12).fValue⟩ : In)] : List In)).map eIn)), (4, pI v4_12)], tabH [.spare 2 (v3_13 ++ ([(⟨x_11, (idx l0 v4_12).fValue⟩ : In)] : List In)).length], 1, []⟩, View.mk 1 [1] _ _ _ rfl rfl (by decide) (iC (iC (iC trivial))) (And.intro rfl trivial) rfl zL rfl, (v3_13 ++ ([(⟨x_11, (idx l0 v4_12).fValue⟩ : In)] : List In)), v4_12, k_4, by omega, jG h, rfl⟩
        · replace h := bGF h hb_9
          refine QW.skip zL (blN (nrm ?_))
          exact ⟨⟨tab [(0, .d (.slice (l0.map ePair))), (3, .own 0 (v3_13.map eIn)), (4, pI v4_12)], tabH [.spare 2 v3_13.length], 1, []⟩, View.mk 1 [0] _ _ _ rfl rfl (by decide) (iC (iC (iC trivial))) (And.intro rfl trivial) rfl zL rfl, v3_13, v4_12, k_4, by omega, jG h, rfl⟩
    · rintro _ ⟨v3_11, v4_10, k_15s, k_15h, h, rfl⟩
      obtain ⟨k_15, rfl, h9⟩ := run_succ h; replace h := h9; clear h9; rw [step_ref08_Ins] at h
      refine rG ?_
      refine xm 11 (pI v4_10) ?_
      obtain ⟨c_16, h⟩ := gG h
      refine xs 12 rfl (sf_add (a := v4_10) (b := (1 : Int)) rfl rfl rfl c_16 ?_)
      refine xz 4 (pI (v4_10 + (1 : Int))) ?_
      exact ⟨k_15, by omega, ⟨tab [(0, .d (.slice (l0.map ePair))), (3, .own 0 (v3_11.map eIn)), (4, pI (v4_10 + (1 : Int)))], tabH [.spare 2 v3_11.length], 1, []⟩, View.mk 1 [0] _ _ _ rfl rfl (by decide) (iC (iC (iC trivial))) (And.intro rfl trivial) rfl zL rfl, v3_11, (v4_10 + (1 : Int)), by omega, jG h, rfl⟩
  · replace h := bGF h hb_2
    refine QW.exit zL (thX (thX (exE (nrm ?_))))
    refine sR ?_
    refine xm 51 (.own 0 (v3_2.map eIn)) ?_
    refine xz 2 (.own 0 (v3_2.map eIn)) ?_
    refine QW.ret zL ?_
    obtain rfl := sG h
    exact Ends.one (.inr rfl) rfl (ResIs.tmp rfl) rfl rfl
inductive C_ref20_Value where
  | S
  | L1 (v3 : Int) (v4 : Int)
noncomputable def step_ref20_Value (l0 : (List Pair)) : C_ref20_Value → Option (C_ref20_Value ⊕ Int)
  | .S =>
    some (.inl (.L1 (0) (0)))
  | .L1 v3 v4 =>
    (bif (decide (v4 < (l0.length : Int))) then
    gO (0 ≤ v4 ∧ v4 < (l0.length : Int)) (
    ((g_ref01_High v3 (((idx l0 v4).fValue).length : Int)).bind fun (x_4 : Int) =>
    gO (inI (v4 + (1 : Int))) (
    some (.inl (.L1 x_4 (v4 + (1 : Int)))))))
    else
    some (.inr v3))
noncomputable def g_ref20_Value (l0 : (List Pair)) : Option Int := theC (step_ref20_Value l0) .S
theorem sim_ref20_Value (l0 : (List Pair)) (r : Int) (h : g_ref20_Value l0 = some r) : Fun Try.prog 6 [.slice (l0.map ePair)] (.val (.int .i64 r)) := by
  refine Fun.of_bodyQ Try.func6 rfl (by simp [Try.ntmps6]) ?_
  rw [Try.ntmps6, TT.res_6]
  refine QW.view (s' := ⟨tab [(0, .d (.slice (l0.map ePair)))], tabH [], 0, []⟩) (View.init (by rfl)) zL ?_
  replace h := theC_get h
  obtain ⟨_, h⟩ := h
  obtain ⟨k_0, rfl, h9⟩ := run_succ h; replace h := h9; clear h9; rw [step_ref20_Value] at h
  refine sR ?_
  refine xz 2 (pI (0)) ?_
  refine sR ?_
  refine xz 3 (pI (0)) ?_
  refine QW.seq ?_
  refine sR ?_
  refine xz 4 (pI (0)) ?_
  refine QW.block ?_
  refine QW.loop (fun k σ => ∃ v3 : Int, ∃ v4 : Int, k ≤ k_0 ∧ run (step_ref20_Value l0) k (.L1 v3 v4) = some r ∧ σ = ⟨tab [(0, .d (.slice (l0.map ePair))), (3, pI v3), (4, pI v4)], tabH [], 0, []⟩) k_0 zL ⟨⟨tab [(0, .d (.slice (l0.map ePair))), (3, pI (0)), (4, pI (0))], tabH [], 0, []⟩, View.mk 0 [] _ _ _ rfl rfl (by decide) (iC (iC (iC trivial))) trivial rfl zL rfl, 0, 0, Nat.le_refl _, jG h, rfl⟩ ?_
  rintro k_1s _ ⟨v3, v4, k_1h, h, rfl⟩
  obtain ⟨k_1, rfl, h9⟩ := run_succ h; replace h := h9; clear h9; rw [step_ref20_Value] at h
  refine QW.seq ?_
  refine sR ?_
  refine xm 5 (pI v4) ?_
  refine xm 6 (.d (.slice (l0.map ePair))) ?_
  refine xs 7 rfl (sf_lenL (en := ePair) (l := l0) rfl TT.under_22 rfl ?_)
  refine xs 8 rfl (sf_lss (a := v4) (b := (l0.length : Int)) rfl rfl rfl ?_)
  refine XK.nz ?_
  refine QW.cond (t := (decide (v4 < (l0.length : Int)))) rfl zL (fun hb_2 => ?_) (fun hb_2 => ?_)
  · replace h := bGT h hb_2
    refine QW.skip zL (nrm ?_)
    refine QW.seq ?_
    refine QW.block ?_
    refine rG ?_
    refine xm 11 (pI v3) ?_
    refine xm 12 (.d (.slice (l0.map ePair))) ?_
    refine xm 13 (pI v4) ?_
    obtain ⟨c_3, h⟩ := gG h
    refine xs 14 rfl (sf_idxA (l := l0) (i := v4) rfl TT.slcA_22 lay_Pair rfl rfl c_3 ?_)
    refine xs 15 rfl (sf_fldC rfl TT.fldA_41_1 (by decide) rfl ?_)
    refine xs 16 rfl (sf_ldC (d := .val (sV ((idx l0 v4).fValue))) rfl TT.tyA_9 rfl (ldc_Pair_1 _) ?_)
    refine xs 17 rfl (sf_lenS (l := (idx l0 v4).fValue) rfl TT.under_9 rfl ?_)
    obtain ⟨x_4, hx_5, h⟩ := bG h
    refine xs 18 rfl (sf_call rfl rfl TT.enters_19 rfl (sim_ref01_High v3 (((idx l0 v4).fValue).length : Int) _ hx_5) ?_)
    refine xa 3 (pI x_4) ?_
    refine XK.nil (blN (nrm ?_))
    refine rG ?_
    refine xm 9 (pI v4) ?_
    obtain ⟨c_6, h⟩ := gG h
    refine xs 10 rfl (sf_add (a := v4) (b := (1 : Int)) rfl rfl rfl c_6 ?_)
    refine xz 4 (pI (v4 + (1 : Int))) ?_
    exact ⟨k_1, by omega, ⟨tab [(0, .d (.slice (l0.map ePair))), (3, pI x_4), (4, pI (v4 + (1 : Int)))], tabH [], 0, []⟩, View.mk 0 [] _ _ _ rfl rfl (by decide) (iC (iC (iC trivial))) trivial rfl zL rfl, x_4, (v4 + (1 : Int)), by omega, jG h, rfl⟩
  · replace h := bGF h hb_2
    refine QW.exit zL (thX (thX (exE (nrm ?_))))
    refine sR ?_
    refine xm 19 (pI v3) ?_
    refine xz 2 (pI v3) ?_
    refine QW.ret zL ?_
    obtain rfl := sG h
    exact Ends.one (.inr rfl) rfl (ResIs.tmp rfl) rfl rfl
inductive C_ref08_Common where
  | S
  | L1 (v3 : Int) (v4 : Int)
noncomputable def step_ref08_Common (l0 : (List In)) : C_ref08_Common → Option (C_ref08_Common ⊕ Int)
  | .S =>
    gO (0 ≤ (0 : Int) ∧ (0 : Int) < (l0.length : Int)) (
    some (.inl (.L1 (((idx l0 (0 : Int)).fPath).length : Int) (1))))
  | .L1 v3 v4 =>
    (bif (decide (v4 < (l0.length : Int))) then
    gO (0 ≤ (0 : Int) ∧ (0 : Int) < (l0.length : Int)) (
    gO (0 ≤ v4 ∧ v4 < (l0.length : Int)) (
    ((g_ref02_Common ((idx l0 (0 : Int)).fPath) ((idx l0 v4).fPath)).bind fun (x_6 : Int) =>
    ((g_ref01_Low v3 x_6).bind fun (x_8 : Int) =>
    gO (inI (v4 + (1 : Int))) (
    some (.inl (.L1 x_8 (v4 + (1 : Int)))))))))
    else
    some (.inr v3))
noncomputable def g_ref08_Common (l0 : (List In)) : Option Int := theC (step_ref08_Common l0) .S
theorem sim_ref08_Common (l0 : (List In)) (r : Int) (h : g_ref08_Common l0 = some r) : Fun Try.prog 29 [.slice (l0.map eIn)] (.val (.int .i64 r)) := by
  refine Fun.of_bodyQ Try.func29 rfl (by simp [Try.ntmps29]) ?_
  rw [Try.ntmps29, TT.res_29]
  refine QW.view (s' := ⟨tab [(0, .d (.slice (l0.map eIn)))], tabH [], 0, []⟩) (View.init (by rfl)) zL ?_
  replace h := theC_get h
  obtain ⟨_, h⟩ := h
  obtain ⟨k_0, rfl, h9⟩ := run_succ h; replace h := h9; clear h9; rw [step_ref08_Common] at h
  refine sR ?_
  refine xz 2 (pI (0)) ?_
  refine sR ?_
  refine xm 5 (.d (.slice (l0.map eIn))) ?_
  obtain ⟨c_1, h⟩ := gG h
  refine xs 6 rfl (sf_idxA (l := l0) (i := (0 : Int)) rfl TT.slcA_26 lay_In rfl rfl c_1 ?_)
  refine xs 7 rfl (sf_fldC rfl TT.fldA_43_0 (by decide) rfl ?_)
  refine xs 8 rfl (sf_ldC (d := .slice (((idx l0 (0 : Int)).fPath).map byteD)) rfl TT.tyA_32 rfl (LdC.one) ?_)
  refine xs 9 rfl (sf_lenL (en := byteD) (l := (idx l0 (0 : Int)).fPath) rfl TT.under_32 rfl ?_)
  refine xz 3 (pI (((idx l0 (0 : Int)).fPath).length : Int)) ?_
  refine QW.seq ?_
  refine sR ?_
  refine xz 4 (pI (1)) ?_
  refine QW.block ?_
  refine QW.loop (fun k σ => ∃ v3 : Int, ∃ v4 : Int, k ≤ k_0 ∧ run (step_ref08_Common l0) k (.L1 v3 v4) = some r ∧ σ = ⟨tab [(0, .d (.slice (l0.map eIn))), (3, pI v3), (4, pI v4)], tabH [], 0, []⟩) k_0 zL ⟨⟨tab [(0, .d (.slice (l0.map eIn))), (3, pI (((idx l0 (0 : Int)).fPath).length : Int)), (4, pI (1))], tabH [], 0, []⟩, View.mk 0 [] _ _ _ rfl rfl (by decide) (iC (iC (iC trivial))) trivial rfl zL rfl, (((idx l0 (0 : Int)).fPath).length : Int), 1, Nat.le_refl _, jG h, rfl⟩ ?_
  rintro k_2s _ ⟨v3, v4, k_2h, h, rfl⟩
  obtain ⟨k_2, rfl, h9⟩ := run_succ h; replace h := h9; clear h9; rw [step_ref08_Common] at h
  refine QW.seq ?_
  refine sR ?_
  refine xm 10 (pI v4) ?_
  refine xm 11 (.d (.slice (l0.map eIn))) ?_
  refine xs 12 rfl (sf_lenL (en := eIn) (l := l0) rfl TT.under_26 rfl ?_)
  refine xs 13 rfl (sf_lss (a := v4) (b := (l0.length : Int)) rfl rfl rfl ?_)
  refine XK.nz ?_
  refine QW.cond (t := (decide (v4 < (l0.length : Int)))) rfl zL (fun hb_3 => ?_) (fun hb_3 => ?_)
  · replace h := bGT h hb_3
    refine QW.skip zL (nrm ?_)
    refine QW.seq ?_
    refine QW.block ?_
    refine QW.region zL (PW.regQ (id := 5) mixedX (M := _) rfl (by kernel_rfl) ?_)
    refine RQ.st (some 16) rfl rfl (sf_move (v := pI v3) rfl rfl ⟨⟨rfl, rfl⟩, ?_⟩)
    refine RQ.st (some 17) rfl rfl (sf_move (v := .d (.slice (l0.map eIn))) rfl rfl ⟨⟨rfl, rfl⟩, ?_⟩)
    obtain ⟨c_4, h⟩ := gG h
    refine RQ.st (some 18) rfl rfl (sf_idxA (l := l0) (i := (0 : Int)) rfl TT.slcA_26 lay_In rfl rfl c_4 ⟨⟨rfl, rfl⟩, ?_⟩)
    refine RQ.st (some 19) rfl rfl (sf_fldC rfl TT.fldA_43_0 (by decide) rfl ⟨⟨rfl, rfl⟩, ?_⟩)
    refine RQ.st (some 20) rfl rfl (sf_ldC (d := .slice (((idx l0 (0 : Int)).fPath).map byteD)) rfl TT.tyA_32 rfl (LdC.one) ⟨⟨rfl, rfl⟩, ?_⟩)
    refine RQ.st (some 21) rfl rfl (sf_move (v := .d (.slice (l0.map eIn))) rfl rfl ⟨⟨rfl, rfl⟩, ?_⟩)
    refine RQ.st (some 22) rfl rfl (sf_move (v := pI v4) rfl rfl ⟨⟨rfl, rfl⟩, ?_⟩)
    obtain ⟨c_5, h⟩ := gG h
    refine RQ.st (some 23) rfl rfl (sf_idxA (l := l0) (i := v4) rfl TT.slcA_26 lay_In rfl rfl c_5 ⟨⟨rfl, rfl⟩, ?_⟩)
    refine RQ.st (some 24) rfl rfl (sf_fldC rfl TT.fldA_43_0 (by decide) rfl ⟨⟨rfl, rfl⟩, ?_⟩)
    refine RQ.st (some 25) rfl rfl (sf_ldC (d := .slice (((idx l0 v4).fPath).map byteD)) rfl TT.tyA_32 rfl (LdC.one) ⟨⟨rfl, rfl⟩, ?_⟩)
    obtain ⟨x_6, hx_7, h⟩ := bG h
    refine RQ.st (some 26) rfl rfl (sf_call rfl rfl TT.enters_36 rfl (sim_ref02_Common ((idx l0 (0 : Int)).fPath) ((idx l0 v4).fPath) _ hx_7) ⟨⟨rfl, rfl⟩, ?_⟩)
    obtain ⟨x_8, hx_9, h⟩ := bG h
    refine RQ.st (some 27) rfl rfl (sf_call rfl rfl TT.enters_37 rfl (sim_ref01_Low v3 x_6 _ hx_9) ⟨⟨rfl, rfl⟩, ?_⟩)
    refine RQ.st (some 3) rfl rfl (sf_assign (v := pI x_8) rfl rfl ⟨⟨rfl, rfl⟩, ?_⟩)
    refine RQ.nil (blN (nrm ?_))
    refine rG ?_
    refine xm 14 (pI v4) ?_
    obtain ⟨c_10, h⟩ := gG h
    refine xs 15 rfl (sf_add (a := v4) (b := (1 : Int)) rfl rfl rfl c_10 ?_)
    refine xz 4 (pI (v4 + (1 : Int))) ?_
    exact ⟨k_2, by omega, ⟨tab [(0, .d (.slice (l0.map eIn))), (3, pI x_8), (4, pI (v4 + (1 : Int)))], tabH [], 0, []⟩, View.mk 0 [] _ _ _ rfl rfl (by decide) (iC (iC (iC trivial))) trivial rfl zL rfl, x_8, (v4 + (1 : Int)), by omega, jG h, rfl⟩
  · replace h := bGF h hb_3
    refine QW.exit zL (thX (thX (exE (nrm ?_))))
    refine sR ?_
    refine xm 28 (pI v3) ?_
    refine xz 2 (pI v3) ?_
    refine QW.ret zL ?_
    obtain rfl := sG h
    exact Ends.one (.inr rfl) rfl (ResIs.tmp rfl) rfl rfl
inductive C_ref08_Rest where
  | S
  | L1 (v5 : (List In)) (v6 : Int)
noncomputable def step_ref08_Rest (l0 : (List In)) (n1 : Int) : C_ref08_Rest → Option (C_ref08_Rest ⊕ (List In))
  | .S =>
    some (.inl (.L1 ([] : (List In)) (0)))
  | .L1 v5 v6 =>
    (bif (decide (v6 < (l0.length : Int))) then
    gO (0 ≤ v6 ∧ v6 < (l0.length : Int)) (
    gO (0 ≤ n1 ∧ n1 ≤ (((idx l0 v6).fPath).length : Int) ∧ (((idx l0 v6).fPath).length : Int) ≤ (((idx l0 v6).fPath).length : Int)) (
    gO (0 ≤ v6 ∧ v6 < (l0.length : Int)) (
    gO ((v5.length + ([(⟨(sub ((idx l0 v6).fPath) n1 (((idx l0 v6).fPath).length : Int)), (idx l0 v6).fValue⟩ : In)] : List In).length) * 40 ≤ 140737488355328) (
    gO (inI (v6 + (1 : Int))) (
    some (.inl (.L1 (v5 ++ ([(⟨(sub ((idx l0 v6).fPath) n1 (((idx l0 v6).fPath).length : Int)), (idx l0 v6).fValue⟩ : In)] : List In)) (v6 + (1 : Int)))))))))
    else
    some (.inr v5))
noncomputable def g_ref08_Rest (l0 : (List In)) (n1 : Int) : Option (List In) := theC (step_ref08_Rest l0 n1) .S
theorem sim_ref08_Rest (l0 : (List In)) (n1 : Int) (r : (List In)) (h : g_ref08_Rest l0 n1 = some r) : Fun Try.prog 22 [.slice (l0.map eIn), .val (.int .i64 n1)] (.slice (r.map eIn)) := by
  refine Fun.of_bodyQ Try.func22 rfl (by simp [Try.ntmps22]) ?_
  rw [Try.ntmps22, TT.res_22]
  refine QW.view (s' := ⟨tab [(0, .d (.slice (l0.map eIn))), (1, pI n1)], tabH [], 0, []⟩) (View.init (by rfl)) zL ?_
  replace h := theC_get h
  obtain ⟨_, h⟩ := h
  obtain ⟨k_0, rfl, h9⟩ := run_succ h; replace h := h9; clear h9; rw [step_ref08_Rest] at h
  refine sR ?_
  refine xz 4 (.full (([] : (List In)).map eIn)) ?_
  refine sR ?_
  refine xz 5 (.full (([] : (List In)).map eIn)) ?_
  refine QW.seq ?_
  refine sR ?_
  refine xz 6 (pI (0)) ?_
  refine QW.block ?_
  refine QW.loop (fun k σ => ∃ v5 : (List In), ∃ v6 : Int, k ≤ k_0 ∧ run (step_ref08_Rest l0 n1) k (.L1 v5 v6) = some r ∧ σ = ⟨tab [(0, .d (.slice (l0.map eIn))), (1, pI n1), (5, .own 0 (v5.map eIn)), (6, pI v6)], tabH [.spare 2 v5.length], 1, []⟩) k_0 zL ⟨⟨tab [(0, .d (.slice (l0.map eIn))), (1, pI n1), (5, .own 0 (([] : (List In)).map eIn)), (6, pI (0))], tabH [.spare 2 ([] : (List In)).length], 1, []⟩, View.trans (View.buf 5 2 rfl zL) (View.mk 1 [0] _ _ _ rfl rfl (by decide) (iC (iC (iC (iC trivial)))) (And.intro rfl trivial) rfl zL rfl), ([] : (List In)), 0, Nat.le_refl _, jG h, rfl⟩ ?_
  rintro k_1s _ ⟨v5, v6, k_1h, h, rfl⟩
  obtain ⟨k_1, rfl, h9⟩ := run_succ h; replace h := h9; clear h9; rw [step_ref08_Rest] at h
  refine QW.seq ?_
  refine sR ?_
  refine xm 7 (pI v6) ?_
  refine xm 8 (.d (.slice (l0.map eIn))) ?_
  refine xs 9 rfl (sf_lenL (en := eIn) (l := l0) rfl TT.under_26 rfl ?_)
  refine xs 10 rfl (sf_lss (a := v6) (b := (l0.length : Int)) rfl rfl rfl ?_)
  refine XK.nz ?_
  refine QW.cond (t := (decide (v6 < (l0.length : Int)))) rfl zL (fun hb_2 => ?_) (fun hb_2 => ?_)
  · replace h := bGT h hb_2
    refine QW.skip zL (nrm ?_)
    refine QW.seq ?_
    refine QW.block ?_
    refine QW.region zL (PW.regK (id := 5) mixedX (M := _) rfl (by kernel_rfl) ?_)
    refine RK.st (some 13) rfl rfl (sf_move (v := .own 0 (v5.map eIn)) rfl rfl ?_)
    refine RK.st (some 14) rfl rfl (sf_move (v := .d (.slice (l0.map eIn))) rfl rfl ?_)
    refine RK.st (some 15) rfl rfl (sf_move (v := pI v6) rfl rfl ?_)
    obtain ⟨c_3, h⟩ := gG h
    refine RK.st (some 16) rfl rfl (sf_idxA (l := l0) (i := v6) rfl TT.slcA_26 lay_In rfl rfl c_3 ?_)
    refine RK.st (some 17) rfl rfl (sf_fldC rfl TT.fldA_43_0 (by decide) rfl ?_)
    refine RK.st (some 18) rfl rfl (sf_ldC (d := .slice (((idx l0 v6).fPath).map byteD)) rfl TT.tyA_32 rfl (LdC.one) ?_)
    refine RK.st (some 19) rfl rfl (sf_move (v := pI n1) rfl rfl ?_)
    obtain ⟨c_4, h⟩ := gG h
    refine RK.st (some 20) rfl rfl (sf_subL (l := (idx l0 v6).fPath) (a := n1) (b := (((idx l0 v6).fPath).length : Int)) rfl TT.under_32 TT.slcA_32 lay_byte rfl rfl rfl c_4 ?_)
    refine RK.st (some 21) rfl rfl (sf_move (v := .d (.slice (l0.map eIn))) rfl rfl ?_)
    refine RK.st (some 22) rfl rfl (sf_move (v := pI v6) rfl rfl ?_)
    obtain ⟨c_5, h⟩ := gG h
    refine RK.st (some 23) rfl rfl (sf_idxA (l := l0) (i := v6) rfl TT.slcA_26 lay_In rfl rfl c_5 ?_)
    refine RK.st (some 24) rfl rfl (sf_fldC rfl TT.fldA_43_1 (by decide) rfl ?_)
    refine RK.st (some 25) rfl rfl (sf_ldC (d := .val (sV ((idx l0 v6).fValue))) rfl TT.tyA_9 rfl (LdC.one) ?_)
    refine RK.st (some 26) rfl rfl (sf_bld (v := .agg [.d (.slice ((sub ((idx l0 v6).fPath) n1 (((idx l0 v6).fPath).length : Int)).map byteD)), pS ((idx l0 v6).fValue)]) rfl TT.bldA_43 (build_of rfl (fill_step (cells' := [.d (.slice ((sub ((idx l0 v6).fPath) n1 (((idx l0 v6).fPath).length : Int)).map byteD)), pS ([] : List UInt8)]) rfl rfl rfl bL rfl (fill_step (cells' := [.d (.slice ((sub ((idx l0 v6).fPath) n1 (((idx l0 v6).fPath).length : Int)).map byteD)), pS ((idx l0 v6).fValue)]) rfl rfl rfl bL rfl fill_nil))) ?_)
    refine RK.st (some 27) rfl rfl (sf_row (en := eIn) (l := ([(⟨(sub ((idx l0 v6).fPath) n1 (((idx l0 v6).fPath).length : Int)), (idx l0 v6).fValue⟩ : In)] : List In)) rfl TT.rowA_26 lay_In (by first | rfl | (simp only [List.map_cons, List.map_nil, eIn_eq]; rfl)) rfl (by decide) (by simp [solids, partsP, evP, ofVal, PV.solid, putS_at, tab, unS, unT, unC, asCond, Value.oneCell']) ?_)
    obtain ⟨c_6, h⟩ := gG h
    refine RK.st (some 28) rfl rfl (sf_appO (en := eIn) (l := v5) (l2 := ([(⟨(sub ((idx l0 v6).fPath) n1 (((idx l0 v6).fPath).length : Int)), (idx l0 v6).fValue⟩ : In)] : List In)) rfl TT.rowA_26 TT.under_26 rfl lay_In rfl rfl rfl c_6 (by decide) ?_)
    refine RK.st (some 5) rfl rfl (sf_assign (v := .own 1 ((v5 ++ ([(⟨(sub ((idx l0 v6).fPath) n1 (((idx l0 v6).fPath).length : Int)), (idx l0 v6).fValue⟩ : In)] : List In)).map eIn)) rfl rfl ?_)
    refine RK.nil ⟨RecsOK.last 15 (by simp) (by simp) (by rfl), (blN (nrm ?_))⟩
    refine QW.view (s' := ⟨tab [(0, .d (.slice (l0.map eIn))), (1, pI n1), (5, .own 0 ((v5 ++ ([(⟨(sub ((idx l0 v6).fPath) n1 (((idx l0 v6).fPath).length : Int)), (idx l0 v6).fValue⟩ : In)] : List In)).map eIn)), (6, pI v6)], tabH [.spare 2 (v5 ++ ([(⟨(sub ((idx l0 v6).fPath) n1 (((idx l0 v6).fPath).length : Int)), (idx l0 v6).fValue⟩ : In)] : List In)).length], 1, []⟩) (View.mk 1 [1] _ _ _ rfl rfl (by decide) (iC (iC (iC (iC trivial)))) (And.intro rfl trivial) rfl zL rfl) zL ?_
    refine rG ?_
    refine xm 11 (pI v6) ?_
    obtain ⟨c_7, h⟩ := gG h
    refine xs 12 rfl (sf_add (a := v6) (b := (1 : Int)) rfl rfl rfl c_7 ?_)
    refine xz 6 (pI (v6 + (1 : Int))) ?_
    exact ⟨k_1, by omega, ⟨tab [(0, .d (.slice (l0.map eIn))), (1, pI n1), (5, .own 0 ((v5 ++ ([(⟨(sub ((idx l0 v6).fPath) n1 (((idx l0 v6).fPath).length : Int)), (idx l0 v6).fValue⟩ : In)] : List In)).map eIn)), (6, pI (v6 + (1 : Int)))], tabH [.spare 2 (v5 ++ ([(⟨(sub ((idx l0 v6).fPath) n1 (((idx l0 v6).fPath).length : Int)), (idx l0 v6).fValue⟩ : In)] : List In)).length], 1, []⟩, View.mk 1 [0] _ _ _ rfl rfl (by decide) (iC (iC (iC (iC trivial)))) (And.intro rfl trivial) rfl zL rfl, (v5 ++ ([(⟨(sub ((idx l0 v6).fPath) n1 (((idx l0 v6).fPath).length : Int)), (idx l0 v6).fValue⟩ : In)] : List In)), (v6 + (1 : Int)), by omega, jG h, rfl⟩
  · replace h := bGF h hb_2
    refine QW.exit zL (thX (thX (exE (nrm ?_))))
    refine sR ?_
    refine xm 29 (.own 0 (v5.map eIn)) ?_
    refine xz 4 (.own 0 (v5.map eIn)) ?_
    refine QW.ret zL ?_
    obtain rfl := sG h
    exact Ends.one (.inr rfl) rfl (ResIs.tmp rfl) rfl rfl
inductive C_ref08_Begin where
  | S
  | L1 (v5_2 : (List In)) (v6 : Int)
noncomputable def step_ref08_Begin (l0 : (List In)) (c1 : Int) : C_ref08_Begin → Option (C_ref08_Begin ⊕ (List In))
  | .S =>
    some (.inl (.L1 ([] : (List In)) (0)))
  | .L1 v5_2 v6 =>
    (bif (decide (v6 < (l0.length : Int))) then
    ((gO (0 ≤ v6 ∧ v6 < (l0.length : Int)) (
    gO (0 ≤ (0 : Int) ∧ (0 : Int) < (((idx l0 v6).fPath).length : Int)) (
    (bif (decide (((idx ((idx l0 v6).fPath) (0 : Int)).toNat : Int) = c1)) then
    gO (0 ≤ v6 ∧ v6 < (l0.length : Int)) (
    gO ((v5_2.length + ([(idx l0 v6)] : List In).length) * 40 ≤ 140737488355328) (
    some (v5_2 ++ ([(idx l0 v6)] : List In))))
    else
    some v5_2))) : Option (List In)).bind fun (v5_5 : (List In)) =>
    gO (inI (v6 + (1 : Int))) (
    some (.inl (.L1 v5_5 (v6 + (1 : Int))))))
    else
    some (.inr v5_2))
noncomputable def g_ref08_Begin (l0 : (List In)) (c1 : Int) : Option (List In) := theC (step_ref08_Begin l0 c1) .S
theorem sim_ref08_Begin (l0 : (List In)) (c1 : Int) (r : (List In)) (h : g_ref08_Begin l0 c1 = some r) : Fun Try.prog 23 [.slice (l0.map eIn), .val (.int .i64 c1)] (.slice (r.map eIn)) := by
  refine Fun.of_bodyQ Try.func23 rfl (by simp [Try.ntmps23]) ?_
  rw [Try.ntmps23, TT.res_23]
  refine QW.view (s' := ⟨tab [(0, .d (.slice (l0.map eIn))), (1, pI c1)], tabH [], 0, []⟩) (View.init (by rfl)) zL ?_
  replace h := theC_get h
  obtain ⟨_, h⟩ := h
  obtain ⟨k_0, rfl, h9⟩ := run_succ h; replace h := h9; clear h9; rw [step_ref08_Begin] at h
  refine sR ?_
  refine xz 4 (.full (([] : (List In)).map eIn)) ?_
  refine sR ?_
  refine xz 5 (.full (([] : (List In)).map eIn)) ?_
  refine QW.seq ?_
  refine sR ?_
  refine xz 6 (pI (0)) ?_
  refine QW.block ?_
  refine QW.loop (fun k σ => ∃ v5_2 : (List In), ∃ v6 : Int, k ≤ k_0 ∧ run (step_ref08_Begin l0 c1) k (.L1 v5_2 v6) = some r ∧ σ = ⟨tab [(0, .d (.slice (l0.map eIn))), (1, pI c1), (5, .own 0 (v5_2.map eIn)), (6, pI v6)], tabH [.spare 2 v5_2.length], 1, []⟩) k_0 zL ⟨⟨tab [(0, .d (.slice (l0.map eIn))), (1, pI c1), (5, .own 0 (([] : (List In)).map eIn)), (6, pI (0))], tabH [.spare 2 ([] : (List In)).length], 1, []⟩, View.trans (View.buf 5 2 rfl zL) (View.mk 1 [0] _ _ _ rfl rfl (by decide) (iC (iC (iC (iC trivial)))) (And.intro rfl trivial) rfl zL rfl), ([] : (List In)), 0, Nat.le_refl _, jG h, rfl⟩ ?_
  rintro k_1s _ ⟨v5_2, v6, k_1h, h, rfl⟩
  obtain ⟨k_1, rfl, h9⟩ := run_succ h; replace h := h9; clear h9; rw [step_ref08_Begin] at h
  refine QW.seq ?_
  refine sR ?_
  refine xm 7 (pI v6) ?_
  refine xm 8 (.d (.slice (l0.map eIn))) ?_
  refine xs 9 rfl (sf_lenL (en := eIn) (l := l0) rfl TT.under_26 rfl ?_)
  refine xs 10 rfl (sf_lss (a := v6) (b := (l0.length : Int)) rfl rfl rfl ?_)
  refine XK.nz ?_
  refine QW.cond (t := (decide (v6 < (l0.length : Int)))) rfl zL (fun hb_2 => ?_) (fun hb_2 => ?_)
  · replace h := bGT h hb_2
    refine QW.skip zL (nrm ?_)
    obtain ⟨v5_5, hq, h⟩ := bG h
    refine QW.seqI (fun s' => s' = ⟨tab [(0, .d (.slice (l0.map eIn))), (1, pI c1), (5, .own 0 (v5_5.map eIn)), (6, pI v6)], tabH [.spare 2 v5_5.length], 1, []⟩) ?_ ?_
    · replace h := hq; clear hq
      refine QW.block ?_
      refine sR ?_
      refine xm 13 (.d (.slice (l0.map eIn))) ?_
      refine xm 14 (pI v6) ?_
      obtain ⟨c_3, h⟩ := gO_get h
      refine xs 15 rfl (sf_idxA (l := l0) (i := v6) rfl TT.slcA_26 lay_In rfl rfl c_3 ?_)
      refine xs 16 rfl (sf_fldC rfl TT.fldA_43_0 (by decide) rfl ?_)
      refine xs 17 rfl (sf_ldC (d := .slice (((idx l0 v6).fPath).map byteD)) rfl TT.tyA_32 rfl (LdC.one) ?_)
      obtain ⟨c_4, h⟩ := gO_get h
      refine xs 18 rfl (sf_idxA (l := (idx l0 v6).fPath) (i := (0 : Int)) rfl TT.slcA_32 lay_byte rfl rfl c_4 ?_)
      refine xs 19 rfl (sf_ldC (d := .val (.int .u8 ((idx ((idx l0 v6).fPath) (0 : Int)).toNat : Int))) rfl TT.tyA_5 rfl (LdC.one) ?_)
      refine xs 20 rfl (sf_toI (n := ((idx ((idx l0 v6).fPath) (0 : Int)).toNat : Int)) rfl TT.under_5 TT.under_3 rfl (inI_u8 _) ?_)
      refine xm 21 (pI c1) ?_
      refine xs 22 rfl (sf_eq (a := ((idx ((idx l0 v6).fPath) (0 : Int)).toNat : Int)) (b := c1) rfl rfl rfl ?_)
      refine XK.nz ?_
      refine QW.cond (t := (decide (((idx ((idx l0 v6).fPath) (0 : Int)).toNat : Int) = c1))) rfl zL (fun hb_5 => ?_) (fun hb_5 => ?_)
      · replace h := bT h hb_5
        refine rG ?_
        refine xm 23 (.own 0 (v5_2.map eIn)) ?_
        refine xm 24 (.d (.slice (l0.map eIn))) ?_
        refine xm 25 (pI v6) ?_
        obtain ⟨c_6, h⟩ := gO_get h
        refine xs 26 rfl (sf_idxA (l := l0) (i := v6) rfl TT.slcA_26 lay_In rfl rfl c_6 ?_)
        refine xs 27 rfl (sf_ldC (d := .agg (cIn (idx l0 v6))) rfl TT.tyA_43 rfl (⟨by simp [cIn], rfl⟩) ?_)
        refine xs 28 rfl (sf_row (en := eIn) (l := ([(idx l0 v6)] : List In)) rfl TT.rowA_26 lay_In (by first | rfl | (simp only [List.map_cons, List.map_nil, eIn_eq]; rfl)) rfl (by decide) (by simp [solids, partsP, evP, ofVal, PV.solid, putS_at, tab, unS, unT, unC, asCond, Value.oneCell']) ?_)
        obtain ⟨c_7, h⟩ := gO_get h
        refine xs 29 rfl (sf_appO (en := eIn) (l := v5_2) (l2 := ([(idx l0 v6)] : List In)) rfl TT.rowA_26 TT.under_26 rfl lay_In rfl rfl rfl c_7 (by decide) ?_)
        refine xa 5 (.own 1 ((v5_2 ++ ([(idx l0 v6)] : List In)).map eIn)) ?_
        refine XK.nil (blN (nrm ?_))
        obtain rfl := sO h
        exact ⟨⟨tab [(0, .d (.slice (l0.map eIn))), (1, pI c1), (5, .own 0 ((v5_2 ++ ([(idx l0 v6)] : List In)).map eIn)), (6, pI v6)], tabH [.spare 2 (v5_2 ++ ([(idx l0 v6)] : List In)).length], 1, []⟩, View.mk 1 [1] _ _ _ rfl rfl (by decide) (iC (iC (iC (iC trivial)))) (And.intro rfl trivial) rfl zL rfl, rfl⟩
      · replace h := bF h hb_5
        refine QW.skip zL (blN (nrm ?_))
        obtain rfl := sO h
        exact ⟨⟨tab [(0, .d (.slice (l0.map eIn))), (1, pI c1), (5, .own 0 (v5_2.map eIn)), (6, pI v6)], tabH [.spare 2 v5_2.length], 1, []⟩, View.mk 1 [0] _ _ _ rfl rfl (by decide) (iC (iC (iC (iC trivial)))) (And.intro rfl trivial) rfl zL rfl, rfl⟩
    · rintro _ rfl
      refine rG ?_
      refine xm 11 (pI v6) ?_
      obtain ⟨c_8, h⟩ := gG h
      refine xs 12 rfl (sf_add (a := v6) (b := (1 : Int)) rfl rfl rfl c_8 ?_)
      refine xz 6 (pI (v6 + (1 : Int))) ?_
      exact ⟨k_1, by omega, ⟨tab [(0, .d (.slice (l0.map eIn))), (1, pI c1), (5, .own 0 (v5_5.map eIn)), (6, pI (v6 + (1 : Int)))], tabH [.spare 2 v5_5.length], 1, []⟩, View.mk 1 [0] _ _ _ rfl rfl (by decide) (iC (iC (iC (iC trivial)))) (And.intro rfl trivial) rfl zL rfl, v5_5, (v6 + (1 : Int)), by omega, jG h, rfl⟩
  · replace h := bGF h hb_2
    refine QW.exit zL (thX (thX (exE (nrm ?_))))
    refine sR ?_
    refine xm 30 (.own 0 (v5_2.map eIn)) ?_
    refine xz 4 (.own 0 (v5_2.map eIn)) ?_
    refine QW.ret zL ?_
    obtain rfl := sG h
    exact Ends.one (.inr rfl) rfl (ResIs.tmp rfl) rfl rfl
inductive C_ref08_Node where
  | S
  | L1 (v7 : Int) (v6_3 : (Arr 16 (List UInt8)))
noncomputable def step_ref08_Node (self : (List In) → Option (List UInt8)) (l0 : (List In)) : C_ref08_Node → Option (C_ref08_Node ⊕ (Node × Bool))
  | .S =>
    (bif (decide ((l0.length : Int) = (0 : Int))) then
    some (.inr ((⟨0, ([] : (List UInt8)), ([] : List UInt8), (Arr.rep 16 ([] : (List UInt8)))⟩ : Node), false))
    else
    (bif (decide ((l0.length : Int) = (1 : Int))) then
    gO (0 ≤ (0 : Int) ∧ (0 : Int) < (l0.length : Int)) (
    gO (0 ≤ (0 : Int) ∧ (0 : Int) < (l0.length : Int)) (
    some (.inr ((⟨1, (idx l0 (0 : Int)).fPath, (idx l0 (0 : Int)).fValue, (Arr.rep 16 ([] : (List UInt8)))⟩ : Node), true))))
    else
    ((g_ref08_Common l0).bind fun (x_5 : Int) =>
    (bif (decide ((0 : Int) < x_5)) then
    gO (0 ≤ (0 : Int) ∧ (0 : Int) < (l0.length : Int)) (
    gO (0 ≤ (0 : Int) ∧ (0 : Int) ≤ x_5 ∧ x_5 ≤ (((idx l0 (0 : Int)).fPath).length : Int)) (
    ((g_ref08_Rest l0 x_5).bind fun (x_10 : (List In)) =>
    ((self x_10).bind fun (x_12 : (List UInt8)) =>
    ((g_ref07_Of x_12).bind fun (x_14 : (List UInt8)) =>
    some (.inr ((⟨2, (sub ((idx l0 (0 : Int)).fPath) (0 : Int) x_5), ([] : List UInt8), ((Arr.rep 16 ([] : (List UInt8))).put (0 : Int) x_14)⟩ : Node), true)))))))
    else
    some (.inl (.L1 (0) (Arr.rep 16 ([] : (List UInt8)))))))))
  | .L1 v7 v6_3 =>
    (bif (decide (v7 < (16 : Int))) then
    ((g_ref08_Begin l0 v7).bind fun (x_18 : (List In)) =>
    ((g_ref08_Rest x_18 (1)).bind fun (x_20 : (List In)) =>
    ((self x_20).bind fun (x_22 : (List UInt8)) =>
    ((g_ref07_Of x_22).bind fun (x_24 : (List UInt8)) =>
    gO (0 ≤ v7 ∧ v7 < ((16 : Nat) : Int)) (
    gO (inI (v7 + (1 : Int))) (
    some (.inl (.L1 (v7 + (1 : Int)) (v6_3.put v7 x_24)))))))))
    else
    some (.inr ((⟨3, ([] : (List UInt8)), ([] : List UInt8), v6_3⟩ : Node), true)))
noncomputable def gs_ref08_Node (self : (List In) → Option (List UInt8)) (l0 : (List In)) : Option (Node × Bool) := theC (step_ref08_Node self l0) .S
theorem sims_ref08_Node (self : (List In) → Option (List UInt8)) (hself : ∀ (y0 : (List In)) (rr : (List UInt8)), self y0 = some rr → Fun Try.prog 31 [.slice (y0.map eIn)] (.val (sV rr))) (l0 : (List In)) (r : (Node × Bool)) (h : gs_ref08_Node self l0 = some r) : Fun Try.prog 20 [.slice (l0.map eIn)] (.tuple [.agg (cNode (r.1)), .val (.bool (r.2))]) := by
  refine Fun.of_bodyQ Try.func20 rfl (by simp [Try.ntmps20]) ?_
  rw [Try.ntmps20, TT.res_20]
  refine QW.view (s' := ⟨tab [(0, .d (.slice (l0.map eIn)))], tabH [], 0, []⟩) (View.init (by rfl)) zL ?_
  replace h := theC_get h
  obtain ⟨_, h⟩ := h
  obtain ⟨k_0, rfl, h9⟩ := run_succ h; replace h := h9; clear h9; rw [step_ref08_Node] at h
  refine sR ?_
  refine xs 2 rfl (sf_alloc (l := (([pI (0), .full (([] : (List UInt8)).map byteD), pS ([] : List UInt8)]) ++ (((Arr.rep 16 ([] : (List UInt8))).1.map eS).map PV.d))) rfl TT.zeroA_46 rfl rfl ?_)
  refine xz 3 (pB false) ?_
  refine QW.seq ?_
  refine sR ?_
  refine xm 8 (.d (.slice (l0.map eIn))) ?_
  refine xs 9 rfl (sf_lenL (en := eIn) (l := l0) rfl TT.under_26 rfl ?_)
  refine xs 10 rfl (sf_eq (a := (l0.length : Int)) (b := (0 : Int)) rfl rfl rfl ?_)
  refine XK.nz ?_
  refine QW.cond (t := (decide ((l0.length : Int) = (0 : Int)))) rfl zL (fun hb_1 => ?_) (fun hb_1 => ?_)
  · replace h := bGT h hb_1
    refine sR ?_
    refine xs 11 rfl (sf_bld (v := .agg (([pI (0), .full (([] : (List UInt8)).map byteD), pS ([] : List UInt8)]) ++ (((Arr.rep 16 ([] : (List UInt8))).1.map eS).map PV.d))) rfl TT.bldA_46 (build_of rfl fill_nil) ?_)
    refine XK.st none rfl rfl (sf_stV (c := (([pI (0), .full (([] : (List UInt8)).map byteD), pS ([] : List UInt8)]) ++ (((Arr.rep 16 ([] : (List UInt8))).1.map eS).map PV.d))) (l' := (([pI (0), .full (([] : (List UInt8)).map byteD), pS ([] : List UInt8)]) ++ (((Arr.rep 16 ([] : (List UInt8))).1.map eS).map PV.d))) rfl TT.tyA_46 rfl rfl rfl rfl rfl (len_app (A := [pI (0), .full (([] : (List UInt8)).map byteD), pS ([] : List UInt8)]) (b := 16) rfl (len_map2 _) rfl) (le_of_len (len_app (A := [pI (0), .full (([] : (List UInt8)).map byteD), pS ([] : List UInt8)]) (b := 16) rfl (len_map2 _) rfl) bL) (spl_same ((len_app (A := [pI (0), .full (([] : (List UInt8)).map byteD), pS ([] : List UInt8)]) (b := 16) rfl (len_map2 _) rfl).trans (len_app (A := [pI (0), .full (([] : (List UInt8)).map byteD), pS ([] : List UInt8)]) (b := 16) rfl (len_map2 _) rfl).symm)) ?_)
    refine xz 3 (pB false) ?_
    refine QW.ret zL (thR ?_)
    obtain rfl := sG h
    exact Ends.more (.inr rfl) rfl (ps := [.agg (([pI (0), .full (([] : (List UInt8)).map byteD), pS ([] : List UInt8)]) ++ (((Arr.rep 16 ([] : (List UInt8))).1.map eS).map PV.d)), pB false]) (And.intro (ResIs.cell rfl rfl TT.tyA_46 (ldv_whole (len_app (A := [pI (0), .full (([] : (List UInt8)).map byteD), pS ([] : List UInt8)]) (b := 16) rfl (len_map2 _) rfl) (Nat.succ_pos _))) (And.intro (ResIs.tmp rfl) trivial)) (by simp only [PV.toD, PV.toDs, toDs_appS, toDs_map, Option.bind_some, Option.map_some, cNode] <;> rfl) rfl
  · replace h := bGF h hb_1
    refine QW.skip zL (nrm ?_)
    refine QW.seq ?_
    refine sR ?_
    refine xm 12 (.d (.slice (l0.map eIn))) ?_
    refine xs 13 rfl (sf_lenL (en := eIn) (l := l0) rfl TT.under_26 rfl ?_)
    refine xs 14 rfl (sf_eq (a := (l0.length : Int)) (b := (1 : Int)) rfl rfl rfl ?_)
    refine XK.nz ?_
    refine QW.cond (t := (decide ((l0.length : Int) = (1 : Int)))) rfl zL (fun hb_2 => ?_) (fun hb_2 => ?_)
    · replace h := bGT h hb_2
      refine QW.seq ?_
      refine QW.region zL (PW.regK (id := 4) mixedX (M := _) rfl (by kernel_rfl) ?_)
      refine RK.st (some 15) rfl rfl (sf_move (v := .d (.slice (l0.map eIn))) rfl rfl ?_)
      obtain ⟨c_3, h⟩ := gG h
      refine RK.st (some 16) rfl rfl (sf_idxA (l := l0) (i := (0 : Int)) rfl TT.slcA_26 lay_In rfl rfl c_3 ?_)
      refine RK.st (some 17) rfl rfl (sf_fldC rfl TT.fldA_43_0 (by decide) rfl ?_)
      refine RK.st (some 18) rfl rfl (sf_ldC (d := .slice (((idx l0 (0 : Int)).fPath).map byteD)) rfl TT.tyA_32 rfl (LdC.one) ?_)
      refine RK.st (some 19) rfl rfl (sf_move (v := .d (.slice (l0.map eIn))) rfl rfl ?_)
      obtain ⟨c_4, h⟩ := gG h
      refine RK.st (some 20) rfl rfl (sf_idxA (l := l0) (i := (0 : Int)) rfl TT.slcA_26 lay_In rfl rfl c_4 ?_)
      refine RK.st (some 21) rfl rfl (sf_fldC rfl TT.fldA_43_1 (by decide) rfl ?_)
      refine RK.st (some 22) rfl rfl (sf_ldC (d := .val (sV ((idx l0 (0 : Int)).fValue))) rfl TT.tyA_9 rfl (LdC.one) ?_)
      refine RK.st (some 23) rfl rfl (sf_bld (v := .agg (([pI (1), .d (.slice (((idx l0 (0 : Int)).fPath).map byteD)), pS ((idx l0 (0 : Int)).fValue)]) ++ (((Arr.rep 16 ([] : (List UInt8))).1.map eS).map PV.d))) rfl TT.bldA_46 (build_of rfl (fill_step (p := pI (1)) (cells := (([pI (0), .full (([] : (List UInt8)).map byteD), pS ([] : List UInt8)]) ++ (((Arr.rep 16 ([] : (List UInt8))).1.map eS).map PV.d))) (cells' := (([pI (1), .full (([] : (List UInt8)).map byteD), pS ([] : List UInt8)]) ++ (((Arr.rep 16 ([] : (List UInt8))).1.map eS).map PV.d))) rfl rfl rfl (le_of_len (len_app (A := [pI (0), .full (([] : (List UInt8)).map byteD), pS ([] : List UInt8)]) (b := 16) rfl (len_map2 _) rfl) bL) (spl_left 0 (by first | exact Nat.le_of_ble_eq_true rfl | simp) rfl) (fill_step (p := .d (.slice (((idx l0 (0 : Int)).fPath).map byteD))) (cells := (([pI (1), .full (([] : (List UInt8)).map byteD), pS ([] : List UInt8)]) ++ (((Arr.rep 16 ([] : (List UInt8))).1.map eS).map PV.d))) (cells' := (([pI (1), .d (.slice (((idx l0 (0 : Int)).fPath).map byteD)), pS ([] : List UInt8)]) ++ (((Arr.rep 16 ([] : (List UInt8))).1.map eS).map PV.d))) rfl rfl rfl (le_of_len (len_app (A := [pI (1), .full (([] : (List UInt8)).map byteD), pS ([] : List UInt8)]) (b := 16) rfl (len_map2 _) rfl) bL) (spl_left 1 (by first | exact Nat.le_of_ble_eq_true rfl | simp) rfl) (fill_step (p := pS ((idx l0 (0 : Int)).fValue)) (cells := (([pI (1), .d (.slice (((idx l0 (0 : Int)).fPath).map byteD)), pS ([] : List UInt8)]) ++ (((Arr.rep 16 ([] : (List UInt8))).1.map eS).map PV.d))) (cells' := (([pI (1), .d (.slice (((idx l0 (0 : Int)).fPath).map byteD)), pS ((idx l0 (0 : Int)).fValue)]) ++ (((Arr.rep 16 ([] : (List UInt8))).1.map eS).map PV.d))) rfl rfl rfl (le_of_len (len_app (A := [pI (1), .d (.slice (((idx l0 (0 : Int)).fPath).map byteD)), pS ([] : List UInt8)]) (b := 16) rfl (len_map2 _) rfl) bL) (spl_left 2 (by first | exact Nat.le_of_ble_eq_true rfl | simp) rfl) fill_nil)))) ?_)
      refine RK.st none rfl rfl (sf_stV (c := (([pI (1), .d (.slice (((idx l0 (0 : Int)).fPath).map byteD)), pS ((idx l0 (0 : Int)).fValue)]) ++ (((Arr.rep 16 ([] : (List UInt8))).1.map eS).map PV.d))) (l' := (([pI (1), .d (.slice (((idx l0 (0 : Int)).fPath).map byteD)), pS ((idx l0 (0 : Int)).fValue)]) ++ (((Arr.rep 16 ([] : (List UInt8))).1.map eS).map PV.d))) rfl TT.tyA_46 rfl rfl rfl rfl rfl (len_app (A := [pI (1), .d (.slice (((idx l0 (0 : Int)).fPath).map byteD)), pS ((idx l0 (0 : Int)).fValue)]) (b := 16) rfl (len_map2 _) rfl) (le_of_len (len_app (A := [pI (0), .full (([] : (List UInt8)).map byteD), pS ([] : List UInt8)]) (b := 16) rfl (len_map2 _) rfl) bL) (spl_same ((len_app (A := [pI (0), .full (([] : (List UInt8)).map byteD), pS ([] : List UInt8)]) (b := 16) rfl (len_map2 _) rfl).trans (len_app (A := [pI (1), .d (.slice (((idx l0 (0 : Int)).fPath).map byteD)), pS ((idx l0 (0 : Int)).fValue)]) (b := 16) rfl (len_map2 _) rfl).symm)) ?_)
      refine RK.st (some 3) rfl rfl (sf_assign (v := pB true) rfl rfl ?_)
      refine RK.nil ⟨RecsOK.last 9 (by simp) (by simp) (by rfl), (nrm ?_)⟩
      refine QW.ret zL (thR ?_)
      obtain rfl := sG h
      exact Ends.more (.inr rfl) rfl (ps := [.agg (([pI (1), .d (.slice (((idx l0 (0 : Int)).fPath).map byteD)), pS ((idx l0 (0 : Int)).fValue)]) ++ (((Arr.rep 16 ([] : (List UInt8))).1.map eS).map PV.d)), pB true]) (And.intro (ResIs.cell rfl rfl TT.tyA_46 (ldv_whole (len_app (A := [pI (1), .d (.slice (((idx l0 (0 : Int)).fPath).map byteD)), pS ((idx l0 (0 : Int)).fValue)]) (b := 16) rfl (len_map2 _) rfl) (Nat.succ_pos _))) (And.intro (ResIs.tmp rfl) trivial)) (by simp only [PV.toD, PV.toDs, toDs_appS, toDs_map, Option.bind_some, Option.map_some, cNode] <;> rfl) rfl
    · replace h := bGF h hb_2
      refine QW.skip zL (nrm ?_)
      refine QW.seq ?_
      refine sR ?_
      refine xm 24 (.d (.slice (l0.map eIn))) ?_
      obtain ⟨x_5, hx_6, h⟩ := bG h
      refine xs 25 rfl (sf_call rfl rfl TT.enters_29 rfl (sim_ref08_Common l0 _ hx_6) ?_)
      refine xz 4 (pI x_5) ?_
      refine sR ?_
      refine xm 26 (pI x_5) ?_
      refine xs 27 rfl (sf_gtr (a := x_5) (b := (0 : Int)) rfl rfl rfl ?_)
      refine XK.nz ?_
      refine QW.cond (t := (decide ((0 : Int) < x_5))) rfl zL (fun hb_7 => ?_) (fun hb_7 => ?_)
      · replace h := bGT h hb_7
        refine sR ?_
        refine xm 28 (.d (.slice (l0.map eIn))) ?_
        obtain ⟨c_8, h⟩ := gG h
        refine xs 29 rfl (sf_idxA (l := l0) (i := (0 : Int)) rfl TT.slcA_26 lay_In rfl rfl c_8 ?_)
        refine xs 30 rfl (sf_fldC rfl TT.fldA_43_0 (by decide) rfl ?_)
        refine xs 31 rfl (sf_ldC (d := .slice (((idx l0 (0 : Int)).fPath).map byteD)) rfl TT.tyA_32 rfl (LdC.one) ?_)
        refine xm 32 (pI x_5) ?_
        obtain ⟨c_9, h⟩ := gG h
        refine xs 33 rfl (sf_subL (l := (idx l0 (0 : Int)).fPath) (a := (0 : Int)) (b := x_5) rfl TT.under_32 TT.slcA_32 lay_byte rfl rfl rfl c_9 ?_)
        refine xs 34 rfl (sf_bld (v := .agg (([pI (2), .d (.slice ((sub ((idx l0 (0 : Int)).fPath) (0 : Int) x_5).map byteD)), pS ([] : List UInt8)]) ++ (((Arr.rep 16 ([] : (List UInt8))).1.map eS).map PV.d))) rfl TT.bldA_46 (build_of rfl (fill_step (p := pI (2)) (cells := (([pI (0), .full (([] : (List UInt8)).map byteD), pS ([] : List UInt8)]) ++ (((Arr.rep 16 ([] : (List UInt8))).1.map eS).map PV.d))) (cells' := (([pI (2), .full (([] : (List UInt8)).map byteD), pS ([] : List UInt8)]) ++ (((Arr.rep 16 ([] : (List UInt8))).1.map eS).map PV.d))) rfl rfl rfl (le_of_len (len_app (A := [pI (0), .full (([] : (List UInt8)).map byteD), pS ([] : List UInt8)]) (b := 16) rfl (len_map2 _) rfl) bL) (spl_left 0 (by first | exact Nat.le_of_ble_eq_true rfl | simp) rfl) (fill_step (p := .d (.slice ((sub ((idx l0 (0 : Int)).fPath) (0 : Int) x_5).map byteD))) (cells := (([pI (2), .full (([] : (List UInt8)).map byteD), pS ([] : List UInt8)]) ++ (((Arr.rep 16 ([] : (List UInt8))).1.map eS).map PV.d))) (cells' := (([pI (2), .d (.slice ((sub ((idx l0 (0 : Int)).fPath) (0 : Int) x_5).map byteD)), pS ([] : List UInt8)]) ++ (((Arr.rep 16 ([] : (List UInt8))).1.map eS).map PV.d))) rfl rfl rfl (le_of_len (len_app (A := [pI (2), .full (([] : (List UInt8)).map byteD), pS ([] : List UInt8)]) (b := 16) rfl (len_map2 _) rfl) bL) (spl_left 1 (by first | exact Nat.le_of_ble_eq_true rfl | simp) rfl) fill_nil))) ?_)
        refine xs 5 rfl (sf_alloc (l := (([pI (0), .full (([] : (List UInt8)).map byteD), pS ([] : List UInt8)]) ++ (((Arr.rep 16 ([] : (List UInt8))).1.map eS).map PV.d))) rfl TT.zeroA_46 rfl rfl ?_)
        refine XK.st none rfl rfl (sf_stV (c := (([pI (2), .d (.slice ((sub ((idx l0 (0 : Int)).fPath) (0 : Int) x_5).map byteD)), pS ([] : List UInt8)]) ++ (((Arr.rep 16 ([] : (List UInt8))).1.map eS).map PV.d))) (l' := (([pI (2), .d (.slice ((sub ((idx l0 (0 : Int)).fPath) (0 : Int) x_5).map byteD)), pS ([] : List UInt8)]) ++ (((Arr.rep 16 ([] : (List UInt8))).1.map eS).map PV.d))) rfl TT.tyA_46 rfl rfl rfl rfl rfl (len_app (A := [pI (2), .d (.slice ((sub ((idx l0 (0 : Int)).fPath) (0 : Int) x_5).map byteD)), pS ([] : List UInt8)]) (b := 16) rfl (len_map2 _) rfl) (le_of_len (len_app (A := [pI (0), .full (([] : (List UInt8)).map byteD), pS ([] : List UInt8)]) (b := 16) rfl (len_map2 _) rfl) bL) (spl_same ((len_app (A := [pI (0), .full (([] : (List UInt8)).map byteD), pS ([] : List UInt8)]) (b := 16) rfl (len_map2 _) rfl).trans (len_app (A := [pI (2), .d (.slice ((sub ((idx l0 (0 : Int)).fPath) (0 : Int) x_5).map byteD)), pS ([] : List UInt8)]) (b := 16) rfl (len_map2 _) rfl).symm)) ?_)
        refine XK.nz ?_
        refine sR ?_
        refine xm 35 (.d (.slice (l0.map eIn))) ?_
        refine xm 36 (pI x_5) ?_
        obtain ⟨x_10, hx_11, h⟩ := bG h
        refine xs 37 rfl (sf_call rfl rfl TT.enters_22 rfl (sim_ref08_Rest l0 x_5 _ hx_11) ?_)
        obtain ⟨x_12, hx_13, h⟩ := bG h
        refine xs 38 rfl (sf_call rfl rfl TT.enters_31 rfl (hself x_10 _ hx_13) ?_)
        obtain ⟨x_14, hx_15, h⟩ := bG h
        refine xs 39 rfl (sf_call rfl rfl TT.enters_30 rfl (sim_ref07_Of x_12 _ hx_15) ?_)
        refine xs 40 rfl (sf_fldV rfl TT.fldA_46_3 (by decide) rfl ?_)
        refine xs 41 rfl (sf_idxV (i := (0 : Int)) rfl TT.slcA_44 TT.arrA_44 rfl rfl (by decide) ?_)
        refine XK.st none rfl rfl (sf_stV (l' := (([pI (2), .d (.slice ((sub ((idx l0 (0 : Int)).fPath) (0 : Int) x_5).map byteD)), pS ([] : List UInt8)]) ++ ((((Arr.rep 16 ([] : (List UInt8))).put (0 : Int) x_14).1.map eS).map PV.d))) rfl TT.tyA_9 rfl rfl rfl rfl rfl rfl (le_seg (n := 16) (by decide) (len_app (A := [pI (2), .d (.slice ((sub ((idx l0 (0 : Int)).fPath) (0 : Int) x_5).map byteD)), pS ([] : List UInt8)]) (b := 16) rfl (len_map2 _) rfl) bL) (spl_in 3 _ rfl (spl_arr0 (by decide))) ?_)
        refine XK.nz ?_
        refine QW.seq ?_
        refine QW.view (s' := ⟨tab [(2, .vptr 0 0), (5, .vptr 1 0)], tabH [.var (([pI (0), .full (([] : (List UInt8)).map byteD), pS ([] : List UInt8)]) ++ (((Arr.rep 16 ([] : (List UInt8))).1.map eS).map PV.d)), .var (([pI (2), .d (.slice ((sub ((idx l0 (0 : Int)).fPath) (0 : Int) x_5).map byteD)), pS ([] : List UInt8)]) ++ ((((Arr.rep 16 ([] : (List UInt8))).put (0 : Int) x_14).1.map eS).map PV.d))], 2, []⟩) (View.mk 2 [0, 1] _ _ _ rfl rfl (by decide) (iC (iC trivial)) (And.intro (by simp only [atH1, res_app, PV.res_d]; rfl) (And.intro (by simp only [atH1, res_app, PV.res_d]; rfl) trivial)) rfl zL rfl) zL ?_
        refine rG ?_
        refine XK.as (some 42) rfl rfl (sf_ldV (v := .agg (([pI (2), .d (.slice ((sub ((idx l0 (0 : Int)).fPath) (0 : Int) x_5).map byteD)), pS ([] : List UInt8)]) ++ ((((Arr.rep 16 ([] : (List UInt8))).put (0 : Int) x_14).1.map eS).map PV.d))) rfl TT.tyA_46 rfl rfl (ldv_whole (len_app (A := [pI (2), .d (.slice ((sub ((idx l0 (0 : Int)).fPath) (0 : Int) x_5).map byteD)), pS ([] : List UInt8)]) (b := 16) rfl (len_map2 _) rfl) (Nat.succ_pos _)) ⟨.d (.agg (cNode (⟨2, (sub ((idx l0 (0 : Int)).fPath) (0 : Int) x_5), ([] : List UInt8), ((Arr.rep 16 ([] : (List UInt8))).put (0 : Int) x_14)⟩ : Node))), (Imp.toD (toD_agg (toDs_app rfl toDs_map))), ?_⟩)
        refine XK.st none rfl rfl (sf_stV (c := (([pI (2), .d (.slice ((sub ((idx l0 (0 : Int)).fPath) (0 : Int) x_5).map byteD)), pS ([] : List UInt8)]) ++ ((((Arr.rep 16 ([] : (List UInt8))).put (0 : Int) x_14).1.map eS).map PV.d))) (l' := (([pI (2), .d (.slice ((sub ((idx l0 (0 : Int)).fPath) (0 : Int) x_5).map byteD)), pS ([] : List UInt8)]) ++ ((((Arr.rep 16 ([] : (List UInt8))).put (0 : Int) x_14).1.map eS).map PV.d))) rfl TT.tyA_46 rfl rfl rfl rfl (show (cNode (⟨2, (sub ((idx l0 (0 : Int)).fPath) (0 : Int) x_5), ([] : List UInt8), ((Arr.rep 16 ([] : (List UInt8))).put (0 : Int) x_14)⟩ : Node)).map PV.d = _ by simp only [cNode, List.map_append]; rfl) (len_app (A := [pI (2), .d (.slice ((sub ((idx l0 (0 : Int)).fPath) (0 : Int) x_5).map byteD)), pS ([] : List UInt8)]) (b := 16) rfl (len_map2 _) rfl) (le_of_len (len_app (A := [pI (0), .full (([] : (List UInt8)).map byteD), pS ([] : List UInt8)]) (b := 16) rfl (len_map2 _) rfl) bL) (spl_same ((len_app (A := [pI (0), .full (([] : (List UInt8)).map byteD), pS ([] : List UInt8)]) (b := 16) rfl (len_map2 _) rfl).trans (len_app (A := [pI (2), .d (.slice ((sub ((idx l0 (0 : Int)).fPath) (0 : Int) x_5).map byteD)), pS ([] : List UInt8)]) (b := 16) rfl (len_map2 _) rfl).symm)) ?_)
        refine xz 3 (pB true) ?_
        refine QW.ret zL (thR ?_)
        obtain rfl := sG h
        exact Ends.more (.inr rfl) rfl (ps := [.agg (([pI (2), .d (.slice ((sub ((idx l0 (0 : Int)).fPath) (0 : Int) x_5).map byteD)), pS ([] : List UInt8)]) ++ ((((Arr.rep 16 ([] : (List UInt8))).put (0 : Int) x_14).1.map eS).map PV.d)), pB true]) (And.intro (ResIs.cell rfl rfl TT.tyA_46 (ldv_whole (len_app (A := [pI (2), .d (.slice ((sub ((idx l0 (0 : Int)).fPath) (0 : Int) x_5).map byteD)), pS ([] : List UInt8)]) (b := 16) rfl (len_map2 _) rfl) (Nat.succ_pos _))) (And.intro (ResIs.tmp rfl) trivial)) (by simp only [PV.toD, PV.toDs, toDs_appS, toDs_map, Option.bind_some, Option.map_some, cNode] <;> rfl) rfl
      · replace h := bGF h hb_7
        refine QW.skip zL (nrm ?_)
        refine sR ?_
        refine xs 43 rfl (sf_bld (v := .agg (([pI (3), .full (([] : (List UInt8)).map byteD), pS ([] : List UInt8)]) ++ (((Arr.rep 16 ([] : (List UInt8))).1.map eS).map PV.d))) rfl TT.bldA_46 (build_of rfl (fill_step (p := pI (3)) (cells := (([pI (0), .full (([] : (List UInt8)).map byteD), pS ([] : List UInt8)]) ++ (((Arr.rep 16 ([] : (List UInt8))).1.map eS).map PV.d))) (cells' := (([pI (3), .full (([] : (List UInt8)).map byteD), pS ([] : List UInt8)]) ++ (((Arr.rep 16 ([] : (List UInt8))).1.map eS).map PV.d))) rfl rfl rfl (le_of_len (len_app (A := [pI (0), .full (([] : (List UInt8)).map byteD), pS ([] : List UInt8)]) (b := 16) rfl (len_map2 _) rfl) bL) (spl_left 0 (by first | exact Nat.le_of_ble_eq_true rfl | simp) rfl) fill_nil)) ?_)
        refine xs 6 rfl (sf_alloc (l := (([pI (0), .full (([] : (List UInt8)).map byteD), pS ([] : List UInt8)]) ++ (((Arr.rep 16 ([] : (List UInt8))).1.map eS).map PV.d))) rfl TT.zeroA_46 rfl rfl ?_)
        refine XK.st none rfl rfl (sf_stV (c := (([pI (3), .full (([] : (List UInt8)).map byteD), pS ([] : List UInt8)]) ++ (((Arr.rep 16 ([] : (List UInt8))).1.map eS).map PV.d))) (l' := (([pI (3), .full (([] : (List UInt8)).map byteD), pS ([] : List UInt8)]) ++ (((Arr.rep 16 ([] : (List UInt8))).1.map eS).map PV.d))) rfl TT.tyA_46 rfl rfl rfl rfl rfl (len_app (A := [pI (3), .full (([] : (List UInt8)).map byteD), pS ([] : List UInt8)]) (b := 16) rfl (len_map2 _) rfl) (le_of_len (len_app (A := [pI (0), .full (([] : (List UInt8)).map byteD), pS ([] : List UInt8)]) (b := 16) rfl (len_map2 _) rfl) bL) (spl_same ((len_app (A := [pI (0), .full (([] : (List UInt8)).map byteD), pS ([] : List UInt8)]) (b := 16) rfl (len_map2 _) rfl).trans (len_app (A := [pI (3), .full (([] : (List UInt8)).map byteD), pS ([] : List UInt8)]) (b := 16) rfl (len_map2 _) rfl).symm)) ?_)
        refine XK.nz ?_
        refine QW.seq ?_
        refine sR ?_
        refine xz 7 (pI (0)) ?_
        refine QW.block ?_
        refine QW.loop (fun k σ => ∃ v7 : Int, ∃ v6_3 : (Arr 16 (List UInt8)), k ≤ k_0 ∧ run (step_ref08_Node self l0) k (.L1 v7 v6_3) = some r ∧ σ = ⟨tab [(0, .d (.slice (l0.map eIn))), (2, .vptr 0 0), (6, .vptr 1 0), (7, pI v7)], tabH [.var (([pI (0), .full (([] : (List UInt8)).map byteD), pS ([] : List UInt8)]) ++ (((Arr.rep 16 ([] : (List UInt8))).1.map eS).map PV.d)), .var (([pI (3), .full (([] : (List UInt8)).map byteD), pS ([] : List UInt8)]) ++ ((v6_3.1.map eS).map PV.d))], 2, []⟩) k_0 zL ⟨⟨tab [(0, .d (.slice (l0.map eIn))), (2, .vptr 0 0), (6, .vptr 1 0), (7, pI (0))], tabH [.var (([pI (0), .full (([] : (List UInt8)).map byteD), pS ([] : List UInt8)]) ++ (((Arr.rep 16 ([] : (List UInt8))).1.map eS).map PV.d)), .var (([pI (3), .full (([] : (List UInt8)).map byteD), pS ([] : List UInt8)]) ++ (((Arr.rep 16 ([] : (List UInt8))).1.map eS).map PV.d))], 2, []⟩, View.mk 2 [0, 1] _ _ _ rfl rfl (by decide) (iC (iC (iC (iC trivial)))) (And.intro (by simp only [atH1, res_app, PV.res_d]; rfl) (And.intro (by simp only [atH1, res_app, PV.res_d]; rfl) trivial)) rfl zL rfl, 0, (Arr.rep 16 ([] : (List UInt8))), Nat.le_refl _, jG h, rfl⟩ ?_
        rintro k_16s _ ⟨v7, v6_3, k_16h, h, rfl⟩
        obtain ⟨k_16, rfl, h9⟩ := run_succ h; replace h := h9; clear h9; rw [step_ref08_Node] at h
        refine QW.seq ?_
        refine sR ?_
        refine xm 44 (pI v7) ?_
        refine xs 45 rfl (sf_lss (a := v7) (b := (16 : Int)) rfl rfl rfl ?_)
        refine XK.nz ?_
        refine QW.cond (t := (decide (v7 < (16 : Int)))) rfl zL (fun hb_17 => ?_) (fun hb_17 => ?_)
        · replace h := bGT h hb_17
          refine QW.skip zL (nrm ?_)
          refine QW.seq ?_
          refine QW.block ?_
          refine rG ?_
          refine xm 48 (pI v7) ?_
          refine xm 49 (.d (.slice (l0.map eIn))) ?_
          refine xm 50 (pI v7) ?_
          obtain ⟨x_18, hx_19, h⟩ := bG h
          refine xs 51 rfl (sf_call rfl rfl TT.enters_23 rfl (sim_ref08_Begin l0 v7 _ hx_19) ?_)
          obtain ⟨x_20, hx_21, h⟩ := bG h
          refine xs 52 rfl (sf_call rfl rfl TT.enters_22 rfl (sim_ref08_Rest x_18 (1) _ hx_21) ?_)
          obtain ⟨x_22, hx_23, h⟩ := bG h
          refine xs 53 rfl (sf_call rfl rfl TT.enters_31 rfl (hself x_20 _ hx_23) ?_)
          obtain ⟨x_24, hx_25, h⟩ := bG h
          refine xs 54 rfl (sf_call rfl rfl TT.enters_30 rfl (sim_ref07_Of x_22 _ hx_25) ?_)
          refine xs 55 rfl (sf_fldV rfl TT.fldA_46_3 (by decide) rfl ?_)
          obtain ⟨c_26, h⟩ := gG h
          refine xs 56 rfl (sf_idxV (i := v7) rfl TT.slcA_44 TT.arrA_44 rfl rfl c_26 ?_)
          refine XK.st none rfl rfl (sf_stV (l' := (([pI (3), .full (([] : (List UInt8)).map byteD), pS ([] : List UInt8)]) ++ (((v6_3.put v7 x_24).1.map eS).map PV.d))) rfl TT.tyA_9 rfl rfl rfl rfl rfl rfl (le_seg (n := 16) c_26 (len_app (A := [pI (3), .full (([] : (List UInt8)).map byteD), pS ([] : List UInt8)]) (b := 16) rfl (len_map2 _) rfl) bL) (spl_in 3 _ rfl (spl_arr0 c_26)) ?_)
          refine XK.nil (blN (nrm ?_))
          refine rG ?_
          refine xm 46 (pI v7) ?_
          obtain ⟨c_27, h⟩ := gG h
          refine xs 47 rfl (sf_add (a := v7) (b := (1 : Int)) rfl rfl rfl c_27 ?_)
          refine xz 7 (pI (v7 + (1 : Int))) ?_
          exact ⟨k_16, by omega, ⟨tab [(0, .d (.slice (l0.map eIn))), (2, .vptr 0 0), (6, .vptr 1 0), (7, pI (v7 + (1 : Int)))], tabH [.var (([pI (0), .full (([] : (List UInt8)).map byteD), pS ([] : List UInt8)]) ++ (((Arr.rep 16 ([] : (List UInt8))).1.map eS).map PV.d)), .var (([pI (3), .full (([] : (List UInt8)).map byteD), pS ([] : List UInt8)]) ++ (((v6_3.put v7 x_24).1.map eS).map PV.d))], 2, []⟩, View.mk 2 [0, 1] _ _ _ rfl rfl (by decide) (iC (iC (iC (iC trivial)))) (And.intro (by simp only [atH1, res_app, PV.res_d]; rfl) (And.intro (by simp only [atH1, res_app, PV.res_d]; rfl) trivial)) rfl zL rfl, (v7 + (1 : Int)), (v6_3.put v7 x_24), by omega, jG h, rfl⟩
        · replace h := bGF h hb_17
          refine QW.exit zL (thX (thX (exE (nrm ?_))))
          refine sR ?_
          refine XK.as (some 57) rfl rfl (sf_ldV (v := .agg (([pI (3), .full (([] : (List UInt8)).map byteD), pS ([] : List UInt8)]) ++ ((v6_3.1.map eS).map PV.d))) rfl TT.tyA_46 rfl rfl (ldv_whole (len_app (A := [pI (3), .full (([] : (List UInt8)).map byteD), pS ([] : List UInt8)]) (b := 16) rfl (len_map2 _) rfl) (Nat.succ_pos _)) ⟨.d (.agg (cNode (⟨3, ([] : (List UInt8)), ([] : List UInt8), v6_3⟩ : Node))), (Imp.toD (toD_agg (toDs_app rfl toDs_map))), ?_⟩)
          refine XK.st none rfl rfl (sf_stV (c := (([pI (3), .d (.slice (([] : (List UInt8)).map byteD)), pS ([] : List UInt8)]) ++ ((v6_3.1.map eS).map PV.d))) (l' := (([pI (3), .d (.slice (([] : (List UInt8)).map byteD)), pS ([] : List UInt8)]) ++ ((v6_3.1.map eS).map PV.d))) rfl TT.tyA_46 rfl rfl rfl rfl (show (cNode (⟨3, ([] : (List UInt8)), ([] : List UInt8), v6_3⟩ : Node)).map PV.d = _ by simp only [cNode, List.map_append]; rfl) (len_app (A := [pI (3), .d (.slice (([] : (List UInt8)).map byteD)), pS ([] : List UInt8)]) (b := 16) rfl (len_map2 _) rfl) (le_of_len (len_app (A := [pI (0), .full (([] : (List UInt8)).map byteD), pS ([] : List UInt8)]) (b := 16) rfl (len_map2 _) rfl) bL) (spl_same ((len_app (A := [pI (0), .full (([] : (List UInt8)).map byteD), pS ([] : List UInt8)]) (b := 16) rfl (len_map2 _) rfl).trans (len_app (A := [pI (3), .d (.slice (([] : (List UInt8)).map byteD)), pS ([] : List UInt8)]) (b := 16) rfl (len_map2 _) rfl).symm)) ?_)
          refine xz 3 (pB true) ?_
          refine QW.ret zL ?_
          obtain rfl := sG h
          exact Ends.more (.inr rfl) rfl (ps := [.agg (([pI (3), .d (.slice (([] : (List UInt8)).map byteD)), pS ([] : List UInt8)]) ++ ((v6_3.1.map eS).map PV.d)), pB true]) (And.intro (ResIs.cell rfl rfl TT.tyA_46 (ldv_whole (len_app (A := [pI (3), .d (.slice (([] : (List UInt8)).map byteD)), pS ([] : List UInt8)]) (b := 16) rfl (len_map2 _) rfl) (Nat.succ_pos _))) (And.intro (ResIs.tmp rfl) trivial)) (by simp only [PV.toD, PV.toDs, toDs_appS, toDs_map, Option.bind_some, Option.map_some, cNode] <;> rfl) rfl
noncomputable def gs_ref08_Enc (self : (List In) → Option (List UInt8)) (l0 : (List In)) : Option (List UInt8) :=
    ((gs_ref08_Node self l0).bind fun (x_1 : (Node × Bool)) =>
    (bif (!(x_1).2) then
    some ([] : List UInt8)
    else
    ((g_ref06_Put (x_1.1)).bind fun (x_4 : (List UInt8)) =>
    some x_4)))
theorem sims_ref08_Enc (self : (List In) → Option (List UInt8)) (hself : ∀ (y0 : (List In)) (rr : (List UInt8)), self y0 = some rr → Fun Try.prog 31 [.slice (y0.map eIn)] (.val (sV rr))) (l0 : (List In)) (r : (List UInt8)) (h : gs_ref08_Enc self l0 = some r) : Fun Try.prog 31 [.slice (l0.map eIn)] (.val (sV r)) := by
  refine Fun.of_bodyQ Try.func31 rfl (by simp [Try.ntmps31]) ?_
  rw [Try.ntmps31, TT.res_31]
  refine QW.view (s' := ⟨tab [(0, .d (.slice (l0.map eIn)))], tabH [], 0, []⟩) (View.init (by rfl)) zL ?_
  unfold gs_ref08_Enc at h
  refine sR ?_
  refine xz 2 (pS ([] : List UInt8)) ?_
  refine sR ?_
  refine xm 6 (.d (.slice (l0.map eIn))) ?_
  obtain ⟨x_1, hx_2, h⟩ := bO h
  refine xs 7 rfl (sf_call rfl rfl TT.enters_20 rfl (sims_ref08_Node self hself l0 _ hx_2) ?_)
  refine xm 5 (.d (.tuple [.agg (cNode (x_1.1)), .val (.bool (x_1.2))])) ?_
  refine xs 8 rfl (sf_extract rfl rfl rfl ?_)
  refine xs 9 rfl (sf_extract rfl rfl rfl ?_)
  refine xs 3 rfl (sf_alloc (l := (([pI (0), .full (([] : (List UInt8)).map byteD), pS ([] : List UInt8)]) ++ (((Arr.rep 16 ([] : (List UInt8))).1.map eS).map PV.d))) rfl TT.zeroA_46 rfl rfl ?_)
  refine XK.st none rfl rfl (sf_stV (c := (([pI ((x_1.1).fKind), .d (.slice (((x_1.1).fPath).map byteD)), pS ((x_1.1).fValue)]) ++ ((((x_1.1).fKids).1.map eS).map PV.d))) (l' := (([pI ((x_1.1).fKind), .d (.slice (((x_1.1).fPath).map byteD)), pS ((x_1.1).fValue)]) ++ ((((x_1.1).fKids).1.map eS).map PV.d))) rfl TT.tyA_46 rfl rfl rfl rfl (show (cNode (x_1.1)).map PV.d = _ by simp only [cNode, List.map_append]; rfl) (len_app (A := [pI ((x_1.1).fKind), .d (.slice (((x_1.1).fPath).map byteD)), pS ((x_1.1).fValue)]) (b := 16) rfl (len_map2 _) rfl) (le_of_len (len_app (A := [pI (0), .full (([] : (List UInt8)).map byteD), pS ([] : List UInt8)]) (b := 16) rfl (len_map2 _) rfl) bL) (spl_same ((len_app (A := [pI (0), .full (([] : (List UInt8)).map byteD), pS ([] : List UInt8)]) (b := 16) rfl (len_map2 _) rfl).trans (len_app (A := [pI ((x_1.1).fKind), .d (.slice (((x_1.1).fPath).map byteD)), pS ((x_1.1).fValue)]) (b := 16) rfl (len_map2 _) rfl).symm)) ?_)
  refine xz 4 (pB (x_1.2)) ?_
  refine QW.seq ?_
  refine sR ?_
  refine xm 10 (pB (x_1.2)) ?_
  refine xs 11 rfl (sf_not rfl rfl ?_)
  refine XK.nz ?_
  refine QW.cond (t := (!(x_1).2)) rfl zL (fun hb_3 => ?_) (fun hb_3 => ?_)
  · replace h := bT h hb_3
    refine sR ?_
    refine xz 2 (pS ([] : List UInt8)) ?_
    refine QW.ret zL (thR ?_)
    obtain rfl := sO h
    exact Ends.one (.inr rfl) rfl (ResIs.tmp rfl) rfl rfl
  · replace h := bF h hb_3
    refine QW.skip zL (nrm ?_)
    refine sR ?_
    refine XK.as (some 12) rfl rfl (sf_ldV (v := .agg (([pI ((x_1.1).fKind), .d (.slice (((x_1.1).fPath).map byteD)), pS ((x_1.1).fValue)]) ++ ((((x_1.1).fKids).1.map eS).map PV.d))) rfl TT.tyA_46 rfl rfl (ldv_whole (len_app (A := [pI ((x_1.1).fKind), .d (.slice (((x_1.1).fPath).map byteD)), pS ((x_1.1).fValue)]) (b := 16) rfl (len_map2 _) rfl) (Nat.succ_pos _)) ⟨.d (.agg (cNode (x_1.1))), (Imp.toD (toD_agg (toDs_app rfl toDs_map))), ?_⟩)
    obtain ⟨x_4, hx_5, h⟩ := bO h
    refine xs 13 rfl (sf_call rfl rfl TT.enters_21 rfl (sim_ref06_Put (x_1.1) _ hx_5) ?_)
    refine xz 2 (pS x_4) ?_
    refine QW.ret zL ?_
    obtain rfl := sO h
    exact Ends.one (.inr rfl) rfl (ResIs.tmp rfl) rfl rfl
noncomputable def rec_ref08_Enc : Nat → (List In) → Option (List UInt8)
  | 0 => fun _ => none
  | n + 1 => fun y0 => gs_ref08_Enc (rec_ref08_Enc n) y0
theorem simr_ref08_Enc : ∀ (n : Nat) (y0 : (List In)) (rr : (List UInt8)), rec_ref08_Enc n y0 = some rr → Fun Try.prog 31 [.slice (y0.map eIn)] (.val (sV rr))
  | 0, _, _, h => by cases h
  | n + 1, y0, rr, h => sims_ref08_Enc (rec_ref08_Enc n) (simr_ref08_Enc n) y0 rr h
noncomputable def g_ref08_Enc (y0 : (List In)) : Option (List UInt8) := theR (fun n => rec_ref08_Enc n y0)
theorem sim_ref08_Enc (y0 : (List In)) (rr : (List UInt8)) (h : g_ref08_Enc y0 = some rr) : Fun Try.prog 31 [.slice (y0.map eIn)] (.val (sV rr)) := by
  obtain ⟨n, hn⟩ := theR_get h
  exact simr_ref08_Enc n y0 rr hn
noncomputable def g_ref08_Node (l0 : (List In)) : Option (Node × Bool) := gs_ref08_Node g_ref08_Enc l0
theorem sim_ref08_Node (l0 : (List In)) (r : (Node × Bool)) (h : g_ref08_Node l0 = some r) : Fun Try.prog 20 [.slice (l0.map eIn)] (.tuple [.agg (cNode (r.1)), .val (.bool (r.2))]) := sims_ref08_Node g_ref08_Enc sim_ref08_Enc l0 r h
inductive C_ref08_Nodes where
  | S
  | L1 (v5_2 : (List (List UInt8))) (v6 : Int) (v3_0_2 : Int) (v3_1_2 : (List UInt8)) (v3_2_2 : (List UInt8)) (v3_3_2 : (Arr 16 (List UInt8)))
noncomputable def step_ref08_Nodes (self : (List In) → Option (List (List UInt8))) (l0 : (List In)) : C_ref08_Nodes → Option (C_ref08_Nodes ⊕ (List (List UInt8)))
  | .S =>
    ((g_ref08_Node l0).bind fun (x_1 : (Node × Bool)) =>
    (bif (!(x_1).2) then
    some (.inr ([] : (List (List UInt8))))
    else
    ((g_ref06_Put (x_1.1)).bind fun (x_4 : (List UInt8)) =>
    (bif (decide (((x_1.1).fKind) = (2 : Int))) then
    ((g_ref08_Rest l0 (((x_1.1).fPath).length : Int)).bind fun (x_7 : (List In)) =>
    ((self x_7).bind fun (x_9 : (List (List UInt8))) =>
    gO ((([x_4] : List (List UInt8)).length + x_9.length) * 16 ≤ 140737488355328) (
    some (.inr (([x_4] : List (List UInt8)) ++ x_9)))))
    else
    some (.inl (.L1 ([x_4] : List (List UInt8)) (0) ((x_1.1).fKind) ((x_1.1).fPath) ((x_1.1).fValue) ((x_1.1).fKids)))))))
  | .L1 v5_2 v6 v3_0_2 v3_1_2 v3_2_2 v3_3_2 =>
    (bif ((decide (v6 < (16 : Int))) && (decide (v3_0_2 = (3 : Int)))) then
    ((g_ref08_Begin l0 v6).bind fun (x_14 : (List In)) =>
    ((g_ref08_Rest x_14 (1)).bind fun (x_16 : (List In)) =>
    ((self x_16).bind fun (x_18 : (List (List UInt8))) =>
    gO ((v5_2.length + x_18.length) * 16 ≤ 140737488355328) (
    gO (inI (v6 + (1 : Int))) (
    some (.inl (.L1 (v5_2 ++ x_18) (v6 + (1 : Int)) v3_0_2 v3_1_2 v3_2_2 v3_3_2)))))))
    else
    some (.inr v5_2))
noncomputable def gs_ref08_Nodes (self : (List In) → Option (List (List UInt8))) (l0 : (List In)) : Option (List (List UInt8)) := theC (step_ref08_Nodes self l0) .S
theorem sims_ref08_Nodes (self : (List In) → Option (List (List UInt8))) (hself : ∀ (y0 : (List In)) (rr : (List (List UInt8))), self y0 = some rr → Fun Try.prog 7 [.slice (y0.map eIn)] (.slice (rr.map eS))) (l0 : (List In)) (r : (List (List UInt8))) (h : gs_ref08_Nodes self l0 = some r) : Fun Try.prog 7 [.slice (l0.map eIn)] (.slice (r.map eS)) := by
  refine Fun.of_bodyQ Try.func7 rfl (by simp [Try.ntmps7]) ?_
  rw [Try.ntmps7, TT.res_7]
  refine QW.view (s' := ⟨tab [(0, .d (.slice (l0.map eIn)))], tabH [], 0, []⟩) (View.init (by rfl)) zL ?_
  replace h := theC_get h
  obtain ⟨_, h⟩ := h
  obtain ⟨k_0, rfl, h9⟩ := run_succ h; replace h := h9; clear h9; rw [step_ref08_Nodes] at h
  refine sR ?_
  refine xz 2 (.full (([] : (List (List UInt8))).map eS)) ?_
  refine sR ?_
  refine xm 8 (.d (.slice (l0.map eIn))) ?_
  obtain ⟨x_1, hx_2, h⟩ := bG h
  refine xs 9 rfl (sf_call rfl rfl TT.enters_20 rfl (sim_ref08_Node l0 _ hx_2) ?_)
  refine xm 7 (.d (.tuple [.agg (cNode (x_1.1)), .val (.bool (x_1.2))])) ?_
  refine xs 10 rfl (sf_extract rfl rfl rfl ?_)
  refine xs 11 rfl (sf_extract rfl rfl rfl ?_)
  refine xs 3 rfl (sf_alloc (l := (([pI (0), .full (([] : (List UInt8)).map byteD), pS ([] : List UInt8)]) ++ (((Arr.rep 16 ([] : (List UInt8))).1.map eS).map PV.d))) rfl TT.zeroA_46 rfl rfl ?_)
  refine XK.st none rfl rfl (sf_stV (c := (([pI ((x_1.1).fKind), .d (.slice (((x_1.1).fPath).map byteD)), pS ((x_1.1).fValue)]) ++ ((((x_1.1).fKids).1.map eS).map PV.d))) (l' := (([pI ((x_1.1).fKind), .d (.slice (((x_1.1).fPath).map byteD)), pS ((x_1.1).fValue)]) ++ ((((x_1.1).fKids).1.map eS).map PV.d))) rfl TT.tyA_46 rfl rfl rfl rfl (show (cNode (x_1.1)).map PV.d = _ by simp only [cNode, List.map_append]; rfl) (len_app (A := [pI ((x_1.1).fKind), .d (.slice (((x_1.1).fPath).map byteD)), pS ((x_1.1).fValue)]) (b := 16) rfl (len_map2 _) rfl) (le_of_len (len_app (A := [pI (0), .full (([] : (List UInt8)).map byteD), pS ([] : List UInt8)]) (b := 16) rfl (len_map2 _) rfl) bL) (spl_same ((len_app (A := [pI (0), .full (([] : (List UInt8)).map byteD), pS ([] : List UInt8)]) (b := 16) rfl (len_map2 _) rfl).trans (len_app (A := [pI ((x_1.1).fKind), .d (.slice (((x_1.1).fPath).map byteD)), pS ((x_1.1).fValue)]) (b := 16) rfl (len_map2 _) rfl).symm)) ?_)
  refine xz 4 (pB (x_1.2)) ?_
  refine QW.seq ?_
  refine sR ?_
  refine xm 12 (pB (x_1.2)) ?_
  refine xs 13 rfl (sf_not rfl rfl ?_)
  refine XK.nz ?_
  refine QW.cond (t := (!(x_1).2)) rfl zL (fun hb_3 => ?_) (fun hb_3 => ?_)
  · replace h := bGT h hb_3
    refine sR ?_
    refine xz 2 (.full (([] : (List (List UInt8))).map eS)) ?_
    refine QW.ret zL (thR ?_)
    obtain rfl := sG h
    exact Ends.one (.inr rfl) rfl (ResIs.tmp rfl) rfl rfl
  · replace h := bGF h hb_3
    refine QW.skip zL (nrm ?_)
    refine sR ?_
    refine XK.as (some 14) rfl rfl (sf_ldV (v := .agg (([pI ((x_1.1).fKind), .d (.slice (((x_1.1).fPath).map byteD)), pS ((x_1.1).fValue)]) ++ ((((x_1.1).fKids).1.map eS).map PV.d))) rfl TT.tyA_46 rfl rfl (ldv_whole (len_app (A := [pI ((x_1.1).fKind), .d (.slice (((x_1.1).fPath).map byteD)), pS ((x_1.1).fValue)]) (b := 16) rfl (len_map2 _) rfl) (Nat.succ_pos _)) ⟨.d (.agg (cNode (x_1.1))), (Imp.toD (toD_agg (toDs_app rfl toDs_map))), ?_⟩)
    obtain ⟨x_4, hx_5, h⟩ := bG h
    refine xs 15 rfl (sf_call rfl rfl TT.enters_21 rfl (sim_ref06_Put (x_1.1) _ hx_5) ?_)
    refine XK.so (some 16) rfl rfl (so_rowO (en := eS) (l := ([x_4] : List (List UInt8))) rfl TT.rowA_29 lay_S rfl rfl (by decide) (by simp [solids, partsP, evP, ofVal, PV.solid, putS_at, tab, unS, unT, unC, asCond, Value.oneCell']) ?_)
    refine xz 5 (.own 1 (([x_4] : List (List UInt8)).map eS)) ?_
    refine QW.seq ?_
    refine sR ?_
    refine xs 17 rfl (sf_fldV rfl TT.fldA_46_0 (by decide) rfl ?_)
    refine xs 18 rfl (sf_ldV (v := pI ((x_1.1).fKind)) rfl TT.tyA_3 rfl rfl (ldv_left ⟨⟨by simp, by simp⟩, rfl⟩) ?_)
    refine xs 19 rfl (sf_eq (a := ((x_1.1).fKind)) (b := (2 : Int)) rfl rfl rfl ?_)
    refine XK.nz ?_
    refine QW.cond (t := (decide (((x_1.1).fKind) = (2 : Int)))) rfl zL (fun hb_6 => ?_) (fun hb_6 => ?_)
    · replace h := bGT h hb_6
      refine sR ?_
      refine xm 20 (.own 1 (([x_4] : List (List UInt8)).map eS)) ?_
      refine xm 21 (.d (.slice (l0.map eIn))) ?_
      refine xs 22 rfl (sf_fldV rfl TT.fldA_46_1 (by decide) rfl ?_)
      refine xs 23 rfl (sf_ldV (v := .d (.slice (((x_1.1).fPath).map byteD))) rfl TT.tyA_32 rfl rfl (ldv_left ⟨⟨by simp, by simp⟩, rfl⟩) ?_)
      refine xs 24 rfl (sf_lenL (en := byteD) (l := (x_1.1).fPath) rfl TT.under_32 rfl ?_)
      obtain ⟨x_7, hx_8, h⟩ := bG h
      refine xs 25 rfl (sf_call rfl rfl TT.enters_22 rfl (sim_ref08_Rest l0 (((x_1.1).fPath).length : Int) _ hx_8) ?_)
      obtain ⟨x_9, hx_10, h⟩ := bG h
      refine xs 26 rfl (sf_call rfl rfl TT.enters_7 rfl (hself x_7 _ hx_10) ?_)
      obtain ⟨c_11, h⟩ := gG h
      refine xs 27 rfl (sf_appO (en := eS) (l := ([x_4] : List (List UInt8))) (l2 := x_9) rfl TT.rowA_29 TT.under_29 rfl lay_S rfl rfl rfl c_11 (by decide) ?_)
      refine xz 2 (.own 2 ((([x_4] : List (List UInt8)) ++ x_9).map eS)) ?_
      refine QW.ret zL (thR ?_)
      obtain rfl := sG h
      exact Ends.one (.inr rfl) rfl (ResIs.tmp rfl) rfl rfl
    · replace h := bGF h hb_6
      refine QW.skip zL (nrm ?_)
      refine QW.seq ?_
      refine sR ?_
      refine xz 6 (pI (0)) ?_
      refine QW.block ?_
      refine QW.loop (fun k σ => ∃ v5_2 : (List (List UInt8)), ∃ v6 : Int, ∃ v3_0_2 : Int, ∃ v3_1_2 : (List UInt8), ∃ v3_2_2 : (List UInt8), ∃ v3_3_2 : (Arr 16 (List UInt8)), k ≤ k_0 ∧ run (step_ref08_Nodes self l0) k (.L1 v5_2 v6 v3_0_2 v3_1_2 v3_2_2 v3_3_2) = some r ∧ σ = ⟨tab [(0, .d (.slice (l0.map eIn))), (3, .vptr 0 0), (5, .own 1 (v5_2.map eS)), (6, pI v6)], tabH [.var (([pI v3_0_2, .d (.slice (v3_1_2.map byteD)), pS v3_2_2]) ++ ((v3_3_2.1.map eS).map PV.d)), .spare 1 v5_2.length], 2, []⟩) k_0 zL ⟨⟨tab [(0, .d (.slice (l0.map eIn))), (3, .vptr 0 0), (5, .own 1 (([x_4] : List (List UInt8)).map eS)), (6, pI (0))], tabH [.var (([pI ((x_1.1).fKind), .d (.slice (((x_1.1).fPath).map byteD)), pS ((x_1.1).fValue)]) ++ ((((x_1.1).fKids).1.map eS).map PV.d)), .spare 1 ([x_4] : List (List UInt8)).length], 2, []⟩, View.mk 2 [0, 1] _ _ _ rfl rfl (by decide) (iC (iC (iC (iC trivial)))) (And.intro (by simp only [atH1, res_app, PV.res_d]; rfl) (And.intro rfl trivial)) rfl zL rfl, ([x_4] : List (List UInt8)), 0, (x_1.1).fKind, (x_1.1).fPath, (x_1.1).fValue, (x_1.1).fKids, Nat.le_refl _, jG h, rfl⟩ ?_
      rintro k_12s _ ⟨v5_2, v6, v3_0_2, v3_1_2, v3_2_2, v3_3_2, k_12h, h, rfl⟩
      obtain ⟨k_12, rfl, h9⟩ := run_succ h; replace h := h9; clear h9; rw [step_ref08_Nodes] at h
      refine QW.seq ?_
      refine sR ?_
      refine xm 28 (pI v6) ?_
      refine xs 29 rfl (sf_lss (a := v6) (b := (16 : Int)) rfl rfl rfl ?_)
      refine xm 30 (pB (decide (v6 < (16 : Int)))) ?_
      refine xg 31 (.vptr 0 0) rfl rfl (fun hg => sf_fldV rfl TT.fldA_46_0 (by decide) rfl g3) ?_
      refine XK.gd (v := pI v3_0_2) (T := [0]) (some 32) rfl rfl (by repeat (first | exact trivial | refine ⟨fun q => by first | rfl | exact q | exact cda q | exact cdb q, ?_⟩)) (fun hg => sf_ldV (v := pI v3_0_2) rfl TT.tyA_3 rfl rfl (ldv_left ⟨⟨by simp, by simp⟩, rfl⟩) g3) (fun _ i hi => by simp only [List.mem_singleton] at hi; subst hi; decide) ?_
      refine xg 33 (pB (decide (v3_0_2 = (3 : Int)))) rfl rfl (fun hg => sf_eq (a := v3_0_2) (b := (3 : Int)) rfl rfl rfl g3) ?_
      refine xs 34 rfl (sf_pickA rfl rfl rfl rfl (fun hb => by rw [hb]; rfl) (fun _ => rfl) ?_)
      refine XK.nz ?_
      refine QW.cond (t := ((decide (v6 < (16 : Int))) && (decide (v3_0_2 = (3 : Int))))) rfl zL (fun hb_13 => ?_) (fun hb_13 => ?_)
      · replace h := bGT h hb_13
        refine QW.skip zL (nrm ?_)
        refine QW.seq ?_
        refine QW.block ?_
        refine rG ?_
        refine xm 37 (.own 1 (v5_2.map eS)) ?_
        refine xm 38 (.d (.slice (l0.map eIn))) ?_
        refine xm 39 (pI v6) ?_
        obtain ⟨x_14, hx_15, h⟩ := bG h
        refine xs 40 rfl (sf_call rfl rfl TT.enters_23 rfl (sim_ref08_Begin l0 v6 _ hx_15) ?_)
        obtain ⟨x_16, hx_17, h⟩ := bG h
        refine xs 41 rfl (sf_call rfl rfl TT.enters_22 rfl (sim_ref08_Rest x_14 (1) _ hx_17) ?_)
        obtain ⟨x_18, hx_19, h⟩ := bG h
        refine xs 42 rfl (sf_call rfl rfl TT.enters_7 rfl (hself x_16 _ hx_19) ?_)
        obtain ⟨c_20, h⟩ := gG h
        refine xs 43 rfl (sf_appO (en := eS) (l := v5_2) (l2 := x_18) rfl TT.rowA_29 TT.under_29 rfl lay_S rfl rfl rfl c_20 (by decide) ?_)
        refine xa 5 (.own 2 ((v5_2 ++ x_18).map eS)) ?_
        refine XK.nil (blN (nrm ?_))
        refine rG ?_
        refine xm 35 (pI v6) ?_
        obtain ⟨c_21, h⟩ := gG h
        refine xs 36 rfl (sf_add (a := v6) (b := (1 : Int)) rfl rfl rfl c_21 ?_)
        refine xz 6 (pI (v6 + (1 : Int))) ?_
        exact ⟨k_12, by omega, ⟨tab [(0, .d (.slice (l0.map eIn))), (3, .vptr 0 0), (5, .own 1 ((v5_2 ++ x_18).map eS)), (6, pI (v6 + (1 : Int)))], tabH [.var (([pI v3_0_2, .d (.slice (v3_1_2.map byteD)), pS v3_2_2]) ++ ((v3_3_2.1.map eS).map PV.d)), .spare 1 (v5_2 ++ x_18).length], 2, []⟩, View.mk 2 [0, 2] _ _ _ rfl rfl (by decide) (iC (iC (iC (iC trivial)))) (And.intro (by simp only [atH1, res_app, PV.res_d]; rfl) (And.intro rfl trivial)) rfl zL rfl, (v5_2 ++ x_18), (v6 + (1 : Int)), v3_0_2, v3_1_2, v3_2_2, v3_3_2, by omega, jG h, rfl⟩
      · replace h := bGF h hb_13
        refine QW.exit zL (thX (thX (exE (nrm ?_))))
        refine sR ?_
        refine xm 44 (.own 1 (v5_2.map eS)) ?_
        refine xz 2 (.own 1 (v5_2.map eS)) ?_
        refine QW.ret zL ?_
        obtain rfl := sG h
        exact Ends.one (.inr rfl) rfl (ResIs.tmp rfl) rfl rfl
noncomputable def rec_ref08_Nodes : Nat → (List In) → Option (List (List UInt8))
  | 0 => fun _ => none
  | n + 1 => fun y0 => gs_ref08_Nodes (rec_ref08_Nodes n) y0
theorem simr_ref08_Nodes : ∀ (n : Nat) (y0 : (List In)) (rr : (List (List UInt8))), rec_ref08_Nodes n y0 = some rr → Fun Try.prog 7 [.slice (y0.map eIn)] (.slice (rr.map eS))
  | 0, _, _, h => by cases h
  | n + 1, y0, rr, h => sims_ref08_Nodes (rec_ref08_Nodes n) (simr_ref08_Nodes n) y0 rr h
noncomputable def g_ref08_Nodes (y0 : (List In)) : Option (List (List UInt8)) := theR (fun n => rec_ref08_Nodes n y0)
theorem sim_ref08_Nodes (y0 : (List In)) (rr : (List (List UInt8))) (h : g_ref08_Nodes y0 = some rr) : Fun Try.prog 7 [.slice (y0.map eIn)] (.slice (rr.map eS)) := by
  obtain ⟨n, hn⟩ := theR_get h
  exact simr_ref08_Nodes n y0 rr hn
noncomputable def gs_ref10_Path (self : (List In) → (List UInt8) → Option (List Node)) (l0 : (List In)) (p1 : (List UInt8)) : Option (List Node) :=
    ((g_ref08_Node l0).bind fun (x_1 : (Node × Bool)) =>
    (bif (!(x_1).2) then
    some ([] : (List Node))
    else
    ((bif (((decide (((x_1.1).fKind) = (2 : Int))) && (decide ((((x_1.1).fPath).length : Int) ≤ (p1.length : Int)))) == true) then g_ref02_Common ((x_1.1).fPath) p1 else some default).bind fun (x_4 : Int) =>
    (bif (((decide (((x_1.1).fKind) = (2 : Int))) && (decide ((((x_1.1).fPath).length : Int) ≤ (p1.length : Int)))) && (decide (x_4 = (((x_1.1).fPath).length : Int)))) then
    ((g_ref08_Rest l0 (((x_1.1).fPath).length : Int)).bind fun (x_7 : (List In)) =>
    gO (0 ≤ (((x_1.1).fPath).length : Int) ∧ (((x_1.1).fPath).length : Int) ≤ (p1.length : Int) ∧ (p1.length : Int) ≤ (p1.length : Int)) (
    ((self x_7 (sub p1 (((x_1.1).fPath).length : Int) (p1.length : Int))).bind fun (x_10 : (List Node)) =>
    gO ((([x_1.1] : List Node).length + x_10.length) * 304 ≤ 140737488355328) (
    some (([x_1.1] : List Node) ++ x_10)))))
    else
    (bif ((decide (((x_1.1).fKind) = (3 : Int))) && (decide ((0 : Int) < (p1.length : Int)))) then
    gO (0 ≤ (0 : Int) ∧ (0 : Int) < (p1.length : Int)) (
    ((g_ref08_Begin l0 ((idx p1 (0 : Int)).toNat : Int)).bind fun (x_15 : (List In)) =>
    ((g_ref08_Rest x_15 (1)).bind fun (x_17 : (List In)) =>
    gO (0 ≤ (1 : Int) ∧ (1 : Int) ≤ (p1.length : Int) ∧ (p1.length : Int) ≤ (p1.length : Int)) (
    ((self x_17 (sub p1 (1 : Int) (p1.length : Int))).bind fun (x_20 : (List Node)) =>
    gO ((([x_1.1] : List Node).length + x_20.length) * 304 ≤ 140737488355328) (
    some (([x_1.1] : List Node) ++ x_20)))))))
    else
    some ([x_1.1] : List Node))))))
theorem sims_ref10_Path (self : (List In) → (List UInt8) → Option (List Node)) (hself : ∀ (y0 : (List In)) (y1 : (List UInt8)) (rr : (List Node)), self y0 y1 = some rr → Fun Try.prog 24 [.slice (y0.map eIn), .slice (y1.map byteD)] (.slice (rr.map eNode))) (l0 : (List In)) (p1 : (List UInt8)) (r : (List Node)) (h : gs_ref10_Path self l0 p1 = some r) : Fun Try.prog 24 [.slice (l0.map eIn), .slice (p1.map byteD)] (.slice (r.map eNode)) := by
  refine Fun.of_bodyQ Try.func24 rfl (by simp [Try.ntmps24]) ?_
  rw [Try.ntmps24, TT.res_24]
  refine QW.view (s' := ⟨tab [(0, .d (.slice (l0.map eIn))), (1, .d (.slice (p1.map byteD)))], tabH [], 0, []⟩) (View.init (by rfl)) zL ?_
  unfold gs_ref10_Path at h
  refine sR ?_
  refine xz 4 (.full (([] : (List Node)).map eNode)) ?_
  refine sR ?_
  refine xm 9 (.d (.slice (l0.map eIn))) ?_
  obtain ⟨x_1, hx_2, h⟩ := bO h
  refine xs 10 rfl (sf_call rfl rfl TT.enters_20 rfl (sim_ref08_Node l0 _ hx_2) ?_)
  refine xm 8 (.d (.tuple [.agg (cNode (x_1.1)), .val (.bool (x_1.2))])) ?_
  refine xs 11 rfl (sf_extract rfl rfl rfl ?_)
  refine xs 12 rfl (sf_extract rfl rfl rfl ?_)
  refine xs 5 rfl (sf_alloc (l := (([pI (0), .full (([] : (List UInt8)).map byteD), pS ([] : List UInt8)]) ++ (((Arr.rep 16 ([] : (List UInt8))).1.map eS).map PV.d))) rfl TT.zeroA_46 rfl rfl ?_)
  refine XK.st none rfl rfl (sf_stV (c := (([pI ((x_1.1).fKind), .d (.slice (((x_1.1).fPath).map byteD)), pS ((x_1.1).fValue)]) ++ ((((x_1.1).fKids).1.map eS).map PV.d))) (l' := (([pI ((x_1.1).fKind), .d (.slice (((x_1.1).fPath).map byteD)), pS ((x_1.1).fValue)]) ++ ((((x_1.1).fKids).1.map eS).map PV.d))) rfl TT.tyA_46 rfl rfl rfl rfl (show (cNode (x_1.1)).map PV.d = _ by simp only [cNode, List.map_append]; rfl) (len_app (A := [pI ((x_1.1).fKind), .d (.slice (((x_1.1).fPath).map byteD)), pS ((x_1.1).fValue)]) (b := 16) rfl (len_map2 _) rfl) (le_of_len (len_app (A := [pI (0), .full (([] : (List UInt8)).map byteD), pS ([] : List UInt8)]) (b := 16) rfl (len_map2 _) rfl) bL) (spl_same ((len_app (A := [pI (0), .full (([] : (List UInt8)).map byteD), pS ([] : List UInt8)]) (b := 16) rfl (len_map2 _) rfl).trans (len_app (A := [pI ((x_1.1).fKind), .d (.slice (((x_1.1).fPath).map byteD)), pS ((x_1.1).fValue)]) (b := 16) rfl (len_map2 _) rfl).symm)) ?_)
  refine xz 6 (pB (x_1.2)) ?_
  refine QW.seq ?_
  refine sR ?_
  refine xm 13 (pB (x_1.2)) ?_
  refine xs 14 rfl (sf_not rfl rfl ?_)
  refine XK.nz ?_
  refine QW.cond (t := (!(x_1).2)) rfl zL (fun hb_3 => ?_) (fun hb_3 => ?_)
  · replace h := bT h hb_3
    refine sR ?_
    refine xz 4 (.full (([] : (List Node)).map eNode)) ?_
    refine QW.ret zL (thR ?_)
    obtain rfl := sO h
    exact Ends.one (.inr rfl) rfl (ResIs.tmp rfl) rfl rfl
  · replace h := bF h hb_3
    refine QW.skip zL (nrm ?_)
    refine sR ?_
    refine XK.as (some 15) rfl rfl (sf_ldV (v := .agg (([pI ((x_1.1).fKind), .d (.slice (((x_1.1).fPath).map byteD)), pS ((x_1.1).fValue)]) ++ ((((x_1.1).fKids).1.map eS).map PV.d))) rfl TT.tyA_46 rfl rfl (ldv_whole (len_app (A := [pI ((x_1.1).fKind), .d (.slice (((x_1.1).fPath).map byteD)), pS ((x_1.1).fValue)]) (b := 16) rfl (len_map2 _) rfl) (Nat.succ_pos _)) ⟨.d (.agg (cNode (x_1.1))), (Imp.toD (toD_agg (toDs_app rfl toDs_map))), ?_⟩)
    refine XK.so (some 16) rfl rfl (so_rowO (en := eNode) (l := ([x_1.1] : List Node)) rfl TT.rowA_51 lay_Node (by first | rfl | (simp only [List.map_cons, List.map_nil, eNode_eq]; rfl)) rfl (by decide) (by simp [solids, partsP, evP, ofVal, PV.solid, putS_at, tab, unS, unT, unC, asCond, Value.oneCell']) ?_)
    refine xz 7 (.own 1 (([x_1.1] : List Node).map eNode)) ?_
    refine QW.seq ?_
    refine QW.seq ?_
    refine QW.region zL (PW.regQ (id := 5) mixedX (M := _) rfl (by kernel_rfl) ?_)
    refine RQ.st (some 17) rfl rfl (sf_fldV rfl TT.fldA_46_0 (by decide) rfl ⟨⟨rfl, rfl⟩, ?_⟩)
    refine RQ.st (some 18) rfl rfl (sf_ldV (v := pI ((x_1.1).fKind)) rfl TT.tyA_3 rfl rfl (ldv_left ⟨⟨by simp, by simp⟩, rfl⟩) ⟨⟨rfl, rfl⟩, ?_⟩)
    refine RQ.st (some 19) rfl rfl (sf_eq (a := ((x_1.1).fKind)) (b := (2 : Int)) rfl rfl rfl ⟨⟨rfl, rfl⟩, ?_⟩)
    refine RQ.st (some 20) rfl rfl (sf_move (v := pB (decide (((x_1.1).fKind) = (2 : Int)))) rfl rfl ⟨⟨rfl, rfl⟩, ?_⟩)
    refine RQ.gd (v := .d (.slice (p1.map byteD))) (T := []) (some 21) rfl rfl (by repeat (first | exact trivial | refine ⟨fun q => by first | rfl | exact q | exact cda q | exact cdb q, ?_⟩)) (fun hg => sf_move (v := .d (.slice (p1.map byteD))) rfl rfl g3) nm0 ?_
    refine RQ.gd (v := pI (p1.length : Int)) (T := []) (some 22) rfl rfl (by repeat (first | exact trivial | refine ⟨fun q => by first | rfl | exact q | exact cda q | exact cdb q, ?_⟩)) (fun hg => sf_lenL (en := byteD) (l := p1) rfl TT.under_32 rfl g3) nm0 ?_
    refine RQ.gd (v := .vptr 0 1) (T := []) (some 23) rfl rfl (by repeat (first | exact trivial | refine ⟨fun q => by first | rfl | exact q | exact cda q | exact cdb q, ?_⟩)) (fun hg => sf_fldV rfl TT.fldA_46_1 (by decide) rfl g3) nm0 ?_
    refine RQ.gd (v := .d (.slice (((x_1.1).fPath).map byteD))) (T := [0]) (some 24) rfl rfl (by repeat (first | exact trivial | refine ⟨fun q => by first | rfl | exact q | exact cda q | exact cdb q, ?_⟩)) (fun hg => sf_ldV (v := .d (.slice (((x_1.1).fPath).map byteD))) rfl TT.tyA_32 rfl rfl (ldv_left ⟨⟨by simp, by simp⟩, rfl⟩) g3) (fun _ i hi => by simp only [List.mem_singleton] at hi; subst hi; decide) ?_
    refine RQ.gd (v := pI (((x_1.1).fPath).length : Int)) (T := []) (some 25) rfl rfl (by repeat (first | exact trivial | refine ⟨fun q => by first | rfl | exact q | exact cda q | exact cdb q, ?_⟩)) (fun hg => sf_lenL (en := byteD) (l := (x_1.1).fPath) rfl TT.under_32 rfl g3) nm0 ?_
    refine RQ.gd (v := pB (decide ((((x_1.1).fPath).length : Int) ≤ (p1.length : Int)))) (T := []) (some 26) rfl rfl (by repeat (first | exact trivial | refine ⟨fun q => by first | rfl | exact q | exact cda q | exact cdb q, ?_⟩)) (fun hg => sf_geq (a := (p1.length : Int)) (b := (((x_1.1).fPath).length : Int)) rfl rfl rfl g3) nm0 ?_
    refine RQ.st (some 27) rfl rfl (sf_pickA rfl rfl rfl rfl (fun hb => by rw [hb]; rfl) (fun _ => rfl) ⟨⟨rfl, rfl⟩, ?_⟩)
    refine RQ.st (some 28) rfl rfl (sf_move (v := pB ((decide (((x_1.1).fKind) = (2 : Int))) && (decide ((((x_1.1).fPath).length : Int) ≤ (p1.length : Int))))) rfl rfl ⟨⟨rfl, rfl⟩, ?_⟩)
    refine RQ.gd (v := .vptr 0 1) (T := []) (some 29) rfl rfl (by repeat (first | exact trivial | refine ⟨fun q => by first | rfl | exact q | exact cda q | exact cdb q, ?_⟩)) (fun hg => sf_fldV rfl TT.fldA_46_1 (by decide) rfl g3) nm0 ?_
    refine RQ.gd (v := .d (.slice (((x_1.1).fPath).map byteD))) (T := [0]) (some 30) rfl rfl (by repeat (first | exact trivial | refine ⟨fun q => by first | rfl | exact q | exact cda q | exact cdb q, ?_⟩)) (fun hg => sf_ldV (v := .d (.slice (((x_1.1).fPath).map byteD))) rfl TT.tyA_32 rfl rfl (ldv_left ⟨⟨by simp, by simp⟩, rfl⟩) g3) (fun _ i hi => by simp only [List.mem_singleton] at hi; subst hi; decide) ?_
    refine RQ.gd (v := .d (.slice (p1.map byteD))) (T := []) (some 31) rfl rfl (by repeat (first | exact trivial | refine ⟨fun q => by first | rfl | exact q | exact cda q | exact cdb q, ?_⟩)) (fun hg => sf_move (v := .d (.slice (p1.map byteD))) rfl rfl g3) nm0 ?_
    obtain ⟨x_4, hx_5, h⟩ := bO h
    refine RQ.gd (v := pI x_4) (T := []) (some 32) rfl rfl (by repeat (first | exact trivial | refine ⟨fun q => by first | rfl | exact q | exact cda q | exact cdb q, ?_⟩)) (fun hg => sf_call rfl rfl TT.enters_36 rfl (sim_ref02_Common ((x_1.1).fPath) p1 _ (bT hx_5 hg)) g3) nm0 ?_
    refine RQ.gd (v := .vptr 0 1) (T := []) (some 33) rfl rfl (by repeat (first | exact trivial | refine ⟨fun q => by first | rfl | exact q | exact cda q | exact cdb q, ?_⟩)) (fun hg => sf_fldV rfl TT.fldA_46_1 (by decide) rfl g3) nm0 ?_
    refine RQ.gd (v := .d (.slice (((x_1.1).fPath).map byteD))) (T := [0]) (some 34) rfl rfl (by repeat (first | exact trivial | refine ⟨fun q => by first | rfl | exact q | exact cda q | exact cdb q, ?_⟩)) (fun hg => sf_ldV (v := .d (.slice (((x_1.1).fPath).map byteD))) rfl TT.tyA_32 rfl rfl (ldv_left ⟨⟨by simp, by simp⟩, rfl⟩) g3) (fun _ i hi => by simp only [List.mem_singleton] at hi; subst hi; decide) ?_
    refine RQ.gd (v := pI (((x_1.1).fPath).length : Int)) (T := []) (some 35) rfl rfl (by repeat (first | exact trivial | refine ⟨fun q => by first | rfl | exact q | exact cda q | exact cdb q, ?_⟩)) (fun hg => sf_lenL (en := byteD) (l := (x_1.1).fPath) rfl TT.under_32 rfl g3) nm0 ?_
    refine RQ.gd (v := pB (decide (x_4 = (((x_1.1).fPath).length : Int)))) (T := []) (some 36) rfl rfl (by repeat (first | exact trivial | refine ⟨fun q => by first | rfl | exact q | exact cda q | exact cdb q, ?_⟩)) (fun hg => sf_eq (a := x_4) (b := (((x_1.1).fPath).length : Int)) rfl rfl rfl g3) nm0 ?_
    refine RQ.st (some 37) rfl rfl (sf_pickA rfl rfl rfl rfl (fun hb => by rw [hb]; rfl) (fun _ => rfl) ⟨⟨rfl, rfl⟩, ?_⟩)
    refine RQ.nil (nrm ?_)
    refine QW.cond (t := (((decide (((x_1.1).fKind) = (2 : Int))) && (decide ((((x_1.1).fPath).length : Int) ≤ (p1.length : Int)))) && (decide (x_4 = (((x_1.1).fPath).length : Int))))) rfl zL (fun hb_6 => ?_) (fun hb_6 => ?_)
    · replace h := bT h hb_6
      refine QW.seq ?_
      refine QW.region zL (PW.regK (id := 6) mixedX (M := _) rfl (by kernel_rfl) ?_)
      refine RK.st (some 38) rfl rfl (sf_move (v := .own 1 (([x_1.1] : List Node).map eNode)) rfl rfl ?_)
      refine RK.st (some 39) rfl rfl (sf_move (v := .d (.slice (l0.map eIn))) rfl rfl ?_)
      refine RK.st (some 40) rfl rfl (sf_fldV rfl TT.fldA_46_1 (by decide) rfl ?_)
      refine RK.st (some 41) rfl rfl (sf_ldV (v := .d (.slice (((x_1.1).fPath).map byteD))) rfl TT.tyA_32 rfl rfl (ldv_left ⟨⟨by simp, by simp⟩, rfl⟩) ?_)
      refine RK.st (some 42) rfl rfl (sf_lenL (en := byteD) (l := (x_1.1).fPath) rfl TT.under_32 rfl ?_)
      obtain ⟨x_7, hx_8, h⟩ := bO h
      refine RK.st (some 43) rfl rfl (sf_call rfl rfl TT.enters_22 rfl (sim_ref08_Rest l0 (((x_1.1).fPath).length : Int) _ hx_8) ?_)
      refine RK.st (some 44) rfl rfl (sf_move (v := .d (.slice (p1.map byteD))) rfl rfl ?_)
      refine RK.st (some 45) rfl rfl (sf_fldV rfl TT.fldA_46_1 (by decide) rfl ?_)
      refine RK.st (some 46) rfl rfl (sf_ldV (v := .d (.slice (((x_1.1).fPath).map byteD))) rfl TT.tyA_32 rfl rfl (ldv_left ⟨⟨by simp, by simp⟩, rfl⟩) ?_)
      refine RK.st (some 47) rfl rfl (sf_lenL (en := byteD) (l := (x_1.1).fPath) rfl TT.under_32 rfl ?_)
      obtain ⟨c_9, h⟩ := gO_get h
      refine RK.st (some 48) rfl rfl (sf_subL (l := p1) (a := (((x_1.1).fPath).length : Int)) (b := (p1.length : Int)) rfl TT.under_32 TT.slcA_32 lay_byte rfl rfl rfl c_9 ?_)
      obtain ⟨x_10, hx_11, h⟩ := bO h
      refine RK.st (some 49) rfl rfl (sf_call rfl rfl TT.enters_24 rfl (hself x_7 (sub p1 (((x_1.1).fPath).length : Int) (p1.length : Int)) _ hx_11) ?_)
      obtain ⟨c_12, h⟩ := gO_get h
      refine RK.st (some 50) rfl rfl (sf_appO (en := eNode) (l := ([x_1.1] : List Node)) (l2 := x_10) rfl TT.rowA_51 TT.under_51 rfl lay_Node rfl rfl rfl c_12 (by decide) ?_)
      refine RK.st (some 4) rfl rfl (sf_assign (v := .own 2 ((([x_1.1] : List Node) ++ x_10).map eNode)) rfl rfl ?_)
      refine RK.nil ⟨RecsOK.comp (by rfl), (nrm ?_)⟩
      refine QW.ret zL (thR ?_)
      obtain rfl := sO h
      exact Ends.one (.inr rfl) rfl (ResIs.tmp rfl) rfl rfl
    · replace h := bF h hb_6
      refine QW.skip zL (nrm ?_)
      refine QW.seq ?_
      refine sR ?_
      refine xs 51 rfl (sf_fldV rfl TT.fldA_46_0 (by decide) rfl ?_)
      refine xs 52 rfl (sf_ldV (v := pI ((x_1.1).fKind)) rfl TT.tyA_3 rfl rfl (ldv_left ⟨⟨by simp, by simp⟩, rfl⟩) ?_)
      refine xs 53 rfl (sf_eq (a := ((x_1.1).fKind)) (b := (3 : Int)) rfl rfl rfl ?_)
      refine xm 54 (pB (decide (((x_1.1).fKind) = (3 : Int)))) ?_
      refine xg 55 (.d (.slice (p1.map byteD))) rfl rfl (fun hg => sf_move (v := .d (.slice (p1.map byteD))) rfl rfl g3) ?_
      refine xg 56 (pI (p1.length : Int)) rfl rfl (fun hg => sf_lenL (en := byteD) (l := p1) rfl TT.under_32 rfl g3) ?_
      refine xg 57 (pB (decide ((0 : Int) < (p1.length : Int)))) rfl rfl (fun hg => sf_gtr (a := (p1.length : Int)) (b := (0 : Int)) rfl rfl rfl g3) ?_
      refine xs 58 rfl (sf_pickA rfl rfl rfl rfl (fun hb => by rw [hb]; rfl) (fun _ => rfl) ?_)
      refine XK.nz ?_
      refine QW.cond (t := ((decide (((x_1.1).fKind) = (3 : Int))) && (decide ((0 : Int) < (p1.length : Int))))) rfl zL (fun hb_13 => ?_) (fun hb_13 => ?_)
      · replace h := bT h hb_13
        refine QW.seq ?_
        refine QW.region zL (PW.regK (id := 8) mixedX (M := _) rfl (by kernel_rfl) ?_)
        refine RK.st (some 59) rfl rfl (sf_move (v := .own 1 (([x_1.1] : List Node).map eNode)) rfl rfl ?_)
        refine RK.st (some 60) rfl rfl (sf_move (v := .d (.slice (l0.map eIn))) rfl rfl ?_)
        refine RK.st (some 61) rfl rfl (sf_move (v := .d (.slice (p1.map byteD))) rfl rfl ?_)
        obtain ⟨c_14, h⟩ := gO_get h
        refine RK.st (some 62) rfl rfl (sf_idxA (l := p1) (i := (0 : Int)) rfl TT.slcA_32 lay_byte rfl rfl c_14 ?_)
        refine RK.st (some 63) rfl rfl (sf_ldC (d := .val (.int .u8 ((idx p1 (0 : Int)).toNat : Int))) rfl TT.tyA_5 rfl (LdC.one) ?_)
        refine RK.st (some 64) rfl rfl (sf_toI (n := ((idx p1 (0 : Int)).toNat : Int)) rfl TT.under_5 TT.under_3 rfl (inI_u8 _) ?_)
        obtain ⟨x_15, hx_16, h⟩ := bO h
        refine RK.st (some 65) rfl rfl (sf_call rfl rfl TT.enters_23 rfl (sim_ref08_Begin l0 ((idx p1 (0 : Int)).toNat : Int) _ hx_16) ?_)
        obtain ⟨x_17, hx_18, h⟩ := bO h
        refine RK.st (some 66) rfl rfl (sf_call rfl rfl TT.enters_22 rfl (sim_ref08_Rest x_15 (1) _ hx_18) ?_)
        refine RK.st (some 67) rfl rfl (sf_move (v := .d (.slice (p1.map byteD))) rfl rfl ?_)
        obtain ⟨c_19, h⟩ := gO_get h
        refine RK.st (some 68) rfl rfl (sf_subL (l := p1) (a := (1 : Int)) (b := (p1.length : Int)) rfl TT.under_32 TT.slcA_32 lay_byte rfl rfl rfl c_19 ?_)
        obtain ⟨x_20, hx_21, h⟩ := bO h
        refine RK.st (some 69) rfl rfl (sf_call rfl rfl TT.enters_24 rfl (hself x_17 (sub p1 (1 : Int) (p1.length : Int)) _ hx_21) ?_)
        obtain ⟨c_22, h⟩ := gO_get h
        refine RK.st (some 70) rfl rfl (sf_appO (en := eNode) (l := ([x_1.1] : List Node)) (l2 := x_20) rfl TT.rowA_51 TT.under_51 rfl lay_Node rfl rfl rfl c_22 (by decide) ?_)
        refine RK.st (some 4) rfl rfl (sf_assign (v := .own 2 ((([x_1.1] : List Node) ++ x_20).map eNode)) rfl rfl ?_)
        refine RK.nil ⟨RecsOK.last 11 (by simp) (by simp) (by rfl), (nrm ?_)⟩
        refine QW.ret zL (thR ?_)
        obtain rfl := sO h
        exact Ends.one (.inr rfl) rfl (ResIs.tmp rfl) rfl rfl
      · replace h := bF h hb_13
        refine QW.skip zL (nrm ?_)
        refine sR ?_
        refine xm 71 (.own 1 (([x_1.1] : List Node).map eNode)) ?_
        refine xz 4 (.own 1 (([x_1.1] : List Node).map eNode)) ?_
        refine QW.ret zL ?_
        obtain rfl := sO h
        exact Ends.one (.inr rfl) rfl (ResIs.tmp rfl) rfl rfl
noncomputable def rec_ref10_Path : Nat → (List In) → (List UInt8) → Option (List Node)
  | 0 => fun _ _ => none
  | n + 1 => fun y0 y1 => gs_ref10_Path (rec_ref10_Path n) y0 y1
theorem simr_ref10_Path : ∀ (n : Nat) (y0 : (List In)) (y1 : (List UInt8)) (rr : (List Node)), rec_ref10_Path n y0 y1 = some rr → Fun Try.prog 24 [.slice (y0.map eIn), .slice (y1.map byteD)] (.slice (rr.map eNode))
  | 0, _, _, _, h => by cases h
  | n + 1, y0, y1, rr, h => sims_ref10_Path (rec_ref10_Path n) (simr_ref10_Path n) y0 y1 rr h
noncomputable def g_ref10_Path (y0 : (List In)) (y1 : (List UInt8)) : Option (List Node) := theR (fun n => rec_ref10_Path n y0 y1)
theorem sim_ref10_Path (y0 : (List In)) (y1 : (List UInt8)) (rr : (List Node)) (h : g_ref10_Path y0 y1 = some rr) : Fun Try.prog 24 [.slice (y0.map eIn), .slice (y1.map byteD)] (.slice (rr.map eNode)) := by
  obtain ⟨n, hn⟩ := theR_get h
  exact simr_ref10_Path n y0 y1 rr hn
inductive C_ref13_Of where
  | S
  | L1 (v5_2 : (List Node)) (v6_2 : (List (List UInt8))) (v7 : Int)
noncomputable def step_ref13_Of (l0 : (List In)) (p1 : (List UInt8)) : C_ref13_Of → Option (C_ref13_Of ⊕ (List (List UInt8)))
  | .S =>
    ((g_ref10_Path l0 p1).bind fun (x_1 : (List Node)) =>
    some (.inl (.L1 x_1 ([] : (List (List UInt8))) (0))))
  | .L1 v5_2 v6_2 v7 =>
    (bif (decide (v7 < (v5_2.length : Int))) then
    ((gO (0 ≤ v7 ∧ v7 < (v5_2.length : Int)) (
    ((g_ref06_Put (idx v5_2 v7)).bind fun (x_6 : (List UInt8)) =>
    (bif ((decide (v7 = (0 : Int))) || (decide ((32 : Int) ≤ (x_6.length : Int)))) then
    gO ((v6_2.length + ([x_6] : List (List UInt8)).length) * 16 ≤ 140737488355328) (
    some (v6_2 ++ ([x_6] : List (List UInt8))))
    else
    some v6_2))) : Option (List (List UInt8))).bind fun (v6_5 : (List (List UInt8))) =>
    gO (inI (v7 + (1 : Int))) (
    some (.inl (.L1 v5_2 v6_5 (v7 + (1 : Int))))))
    else
    some (.inr v6_2))
noncomputable def g_ref13_Of (l0 : (List In)) (p1 : (List UInt8)) : Option (List (List UInt8)) := theC (step_ref13_Of l0 p1) .S
theorem sim_ref13_Of (l0 : (List In)) (p1 : (List UInt8)) (r : (List (List UInt8))) (h : g_ref13_Of l0 p1 = some r) : Fun Try.prog 8 [.slice (l0.map eIn), .slice (p1.map byteD)] (.slice (r.map eS)) := by
  refine Fun.of_bodyQ Try.func8 rfl (by simp [Try.ntmps8]) ?_
  rw [Try.ntmps8, TT.res_8]
  refine QW.view (s' := ⟨tab [(0, .d (.slice (l0.map eIn))), (1, .d (.slice (p1.map byteD)))], tabH [], 0, []⟩) (View.init (by rfl)) zL ?_
  replace h := theC_get h
  obtain ⟨_, h⟩ := h
  obtain ⟨k_0, rfl, h9⟩ := run_succ h; replace h := h9; clear h9; rw [step_ref13_Of] at h
  refine sR ?_
  refine xz 4 (.full (([] : (List (List UInt8))).map eS)) ?_
  refine sR ?_
  refine xm 9 (.d (.slice (l0.map eIn))) ?_
  refine xm 10 (.d (.slice (p1.map byteD))) ?_
  obtain ⟨x_1, hx_2, h⟩ := bG h
  refine xs 11 rfl (sf_call rfl rfl TT.enters_24 rfl (sim_ref10_Path l0 p1 _ hx_2) ?_)
  refine xz 5 (.d (.slice (x_1.map eNode))) ?_
  refine sR ?_
  refine xz 6 (.full (([] : (List (List UInt8))).map eS)) ?_
  refine QW.seq ?_
  refine sR ?_
  refine xz 7 (pI (0)) ?_
  refine QW.block ?_
  refine QW.loop (fun k σ => ∃ v5_2 : (List Node), ∃ v6_2 : (List (List UInt8)), ∃ v7 : Int, k ≤ k_0 ∧ run (step_ref13_Of l0 p1) k (.L1 v5_2 v6_2 v7) = some r ∧ σ = ⟨tab [(5, .d (.slice (v5_2.map eNode))), (6, .own 0 (v6_2.map eS)), (7, pI v7)], tabH [.spare 1 v6_2.length], 1, []⟩) k_0 zL ⟨⟨tab [(5, .d (.slice (x_1.map eNode))), (6, .own 0 (([] : (List (List UInt8))).map eS)), (7, pI (0))], tabH [.spare 1 ([] : (List (List UInt8))).length], 1, []⟩, View.trans (View.buf 6 1 rfl zL) (View.mk 1 [0] _ _ _ rfl rfl (by decide) (iC (iC (iC trivial))) (And.intro rfl trivial) rfl zL rfl), x_1, ([] : (List (List UInt8))), 0, Nat.le_refl _, jG h, rfl⟩ ?_
  rintro k_3s _ ⟨v5_2, v6_2, v7, k_3h, h, rfl⟩
  obtain ⟨k_3, rfl, h9⟩ := run_succ h; replace h := h9; clear h9; rw [step_ref13_Of] at h
  refine QW.seq ?_
  refine sR ?_
  refine xm 12 (pI v7) ?_
  refine xm 13 (.d (.slice (v5_2.map eNode))) ?_
  refine xs 14 rfl (sf_lenL (en := eNode) (l := v5_2) rfl TT.under_51 rfl ?_)
  refine xs 15 rfl (sf_lss (a := v7) (b := (v5_2.length : Int)) rfl rfl rfl ?_)
  refine XK.nz ?_
  refine QW.cond (t := (decide (v7 < (v5_2.length : Int)))) rfl zL (fun hb_4 => ?_) (fun hb_4 => ?_)
  · replace h := bGT h hb_4
    refine QW.skip zL (nrm ?_)
    obtain ⟨v6_5, hq, h⟩ := bG h
    refine QW.seqI (fun s' => s' = ⟨tab [(5, .d (.slice (v5_2.map eNode))), (6, .own 0 (v6_5.map eS)), (7, pI v7)], tabH [.spare 1 v6_5.length], 1, []⟩) ?_ ?_
    · replace h := hq; clear hq
      refine QW.block ?_
      refine sR ?_
      refine xm 18 (.d (.slice (v5_2.map eNode))) ?_
      refine xm 19 (pI v7) ?_
      obtain ⟨c_5, h⟩ := gO_get h
      refine xs 20 rfl (sf_idxA (l := v5_2) (i := v7) rfl TT.slcA_51 lay_Node rfl rfl c_5 ?_)
      refine xs 21 rfl (sf_ldC (d := .agg (cNode (idx v5_2 v7))) rfl TT.tyA_46 rfl (⟨by rw [lay_Node.len]; decide, congrArg D.agg (List.take_of_length_le (by rw [lay_Node.len]; decide))⟩) ?_)
      obtain ⟨x_6, hx_7, h⟩ := bO h
      refine xs 22 rfl (sf_call rfl rfl TT.enters_21 rfl (sim_ref06_Put (idx v5_2 v7) _ hx_7) ?_)
      refine xz 8 (pS x_6) ?_
      refine sR ?_
      refine xm 23 (pI v7) ?_
      refine xs 24 rfl (sf_eq (a := v7) (b := (0 : Int)) rfl rfl rfl ?_)
      refine xm 25 (pB (decide (v7 = (0 : Int)))) ?_
      refine xg 26 (pS x_6) rfl rfl (fun hg => sf_move (v := pS x_6) rfl rfl g3) ?_
      refine xg 27 (pI (x_6.length : Int)) rfl rfl (fun hg => sf_lenS (l := x_6) rfl TT.under_9 rfl g3) ?_
      refine xg 28 (pB (decide ((32 : Int) ≤ (x_6.length : Int)))) rfl rfl (fun hg => sf_geq (a := (x_6.length : Int)) (b := (32 : Int)) rfl rfl rfl g3) ?_
      refine xs 29 rfl (sf_pickO rfl rfl rfl rfl (fun _ => rfl) (fun hb => by rw [hb]; rfl) ?_)
      refine XK.nz ?_
      refine QW.cond (t := ((decide (v7 = (0 : Int))) || (decide ((32 : Int) ≤ (x_6.length : Int))))) rfl zL (fun hb_8 => ?_) (fun hb_8 => ?_)
      · replace h := bT h hb_8
        refine rG ?_
        refine xm 30 (.own 0 (v6_2.map eS)) ?_
        refine xm 31 (pS x_6) ?_
        refine xs 32 rfl (sf_row (en := eS) (l := ([x_6] : List (List UInt8))) rfl TT.rowA_29 lay_S rfl rfl (by decide) (by simp [solids, partsP, evP, ofVal, PV.solid, putS_at, tab, unS, unT, unC, asCond, Value.oneCell']) ?_)
        obtain ⟨c_9, h⟩ := gO_get h
        refine xs 33 rfl (sf_appO (en := eS) (l := v6_2) (l2 := ([x_6] : List (List UInt8))) rfl TT.rowA_29 TT.under_29 rfl lay_S rfl rfl rfl c_9 (by decide) ?_)
        refine xa 6 (.own 1 ((v6_2 ++ ([x_6] : List (List UInt8))).map eS)) ?_
        refine XK.nil (blN (nrm ?_))
        obtain rfl := sO h
        exact ⟨⟨tab [(5, .d (.slice (v5_2.map eNode))), (6, .own 0 ((v6_2 ++ ([x_6] : List (List UInt8))).map eS)), (7, pI v7)], tabH [.spare 1 (v6_2 ++ ([x_6] : List (List UInt8))).length], 1, []⟩, View.mk 1 [1] _ _ _ rfl rfl (by decide) (iC (iC (iC trivial))) (And.intro rfl trivial) rfl zL rfl, rfl⟩
      · replace h := bF h hb_8
        refine QW.skip zL (blN (nrm ?_))
        obtain rfl := sO h
        exact ⟨⟨tab [(5, .d (.slice (v5_2.map eNode))), (6, .own 0 (v6_2.map eS)), (7, pI v7)], tabH [.spare 1 v6_2.length], 1, []⟩, View.mk 1 [0] _ _ _ rfl rfl (by decide) (iC (iC (iC trivial))) (And.intro rfl trivial) rfl zL rfl, rfl⟩
    · rintro _ rfl
      refine rG ?_
      refine xm 16 (pI v7) ?_
      obtain ⟨c_10, h⟩ := gG h
      refine xs 17 rfl (sf_add (a := v7) (b := (1 : Int)) rfl rfl rfl c_10 ?_)
      refine xz 7 (pI (v7 + (1 : Int))) ?_
      exact ⟨k_3, by omega, ⟨tab [(5, .d (.slice (v5_2.map eNode))), (6, .own 0 (v6_5.map eS)), (7, pI (v7 + (1 : Int)))], tabH [.spare 1 v6_5.length], 1, []⟩, View.mk 1 [0] _ _ _ rfl rfl (by decide) (iC (iC (iC trivial))) (And.intro rfl trivial) rfl zL rfl, v5_2, v6_5, (v7 + (1 : Int)), by omega, jG h, rfl⟩
  · replace h := bGF h hb_4
    refine QW.exit zL (thX (thX (exE (nrm ?_))))
    refine sR ?_
    refine xm 34 (.own 0 (v6_2.map eS)) ?_
    refine xz 4 (.own 0 (v6_2.map eS)) ?_
    refine QW.ret zL ?_
    obtain rfl := sG h
    exact Ends.one (.inr rfl) rfl (ResIs.tmp rfl) rfl rfl
inductive C_ref20_Longest where
  | S
  | L1 (v3 : Int) (v4 : Int)
noncomputable def step_ref20_Longest (l0 : (List (List UInt8))) : C_ref20_Longest → Option (C_ref20_Longest ⊕ Int)
  | .S =>
    some (.inl (.L1 (0) (0)))
  | .L1 v3 v4 =>
    (bif (decide (v4 < (l0.length : Int))) then
    gO (0 ≤ v4 ∧ v4 < (l0.length : Int)) (
    ((g_ref01_High v3 ((idx l0 v4).length : Int)).bind fun (x_4 : Int) =>
    gO (inI (v4 + (1 : Int))) (
    some (.inl (.L1 x_4 (v4 + (1 : Int)))))))
    else
    some (.inr v3))
noncomputable def g_ref20_Longest (l0 : (List (List UInt8))) : Option Int := theC (step_ref20_Longest l0) .S
theorem sim_ref20_Longest (l0 : (List (List UInt8))) (r : Int) (h : g_ref20_Longest l0 = some r) : Fun Try.prog 11 [.slice (l0.map eS)] (.val (.int .i64 r)) := by
  refine Fun.of_bodyQ Try.func11 rfl (by simp [Try.ntmps11]) ?_
  rw [Try.ntmps11, TT.res_11]
  refine QW.view (s' := ⟨tab [(0, .d (.slice (l0.map eS)))], tabH [], 0, []⟩) (View.init (by rfl)) zL ?_
  replace h := theC_get h
  obtain ⟨_, h⟩ := h
  obtain ⟨k_0, rfl, h9⟩ := run_succ h; replace h := h9; clear h9; rw [step_ref20_Longest] at h
  refine sR ?_
  refine xz 2 (pI (0)) ?_
  refine sR ?_
  refine xz 3 (pI (0)) ?_
  refine QW.seq ?_
  refine sR ?_
  refine xz 4 (pI (0)) ?_
  refine QW.block ?_
  refine QW.loop (fun k σ => ∃ v3 : Int, ∃ v4 : Int, k ≤ k_0 ∧ run (step_ref20_Longest l0) k (.L1 v3 v4) = some r ∧ σ = ⟨tab [(0, .d (.slice (l0.map eS))), (3, pI v3), (4, pI v4)], tabH [], 0, []⟩) k_0 zL ⟨⟨tab [(0, .d (.slice (l0.map eS))), (3, pI (0)), (4, pI (0))], tabH [], 0, []⟩, View.mk 0 [] _ _ _ rfl rfl (by decide) (iC (iC (iC trivial))) trivial rfl zL rfl, 0, 0, Nat.le_refl _, jG h, rfl⟩ ?_
  rintro k_1s _ ⟨v3, v4, k_1h, h, rfl⟩
  obtain ⟨k_1, rfl, h9⟩ := run_succ h; replace h := h9; clear h9; rw [step_ref20_Longest] at h
  refine QW.seq ?_
  refine sR ?_
  refine xm 5 (pI v4) ?_
  refine xm 6 (.d (.slice (l0.map eS))) ?_
  refine xs 7 rfl (sf_lenL (en := eS) (l := l0) rfl TT.under_29 rfl ?_)
  refine xs 8 rfl (sf_lss (a := v4) (b := (l0.length : Int)) rfl rfl rfl ?_)
  refine XK.nz ?_
  refine QW.cond (t := (decide (v4 < (l0.length : Int)))) rfl zL (fun hb_2 => ?_) (fun hb_2 => ?_)
  · replace h := bGT h hb_2
    refine QW.skip zL (nrm ?_)
    refine QW.seq ?_
    refine QW.block ?_
    refine rG ?_
    refine xm 11 (pI v3) ?_
    refine xm 12 (.d (.slice (l0.map eS))) ?_
    refine xm 13 (pI v4) ?_
    obtain ⟨c_3, h⟩ := gG h
    refine xs 14 rfl (sf_idxA (l := l0) (i := v4) rfl TT.slcA_29 lay_S rfl rfl c_3 ?_)
    refine xs 15 rfl (sf_ldC (d := .val (sV (idx l0 v4))) rfl TT.tyA_9 rfl (LdC.one) ?_)
    refine xs 16 rfl (sf_lenS (l := (idx l0 v4)) rfl TT.under_9 rfl ?_)
    obtain ⟨x_4, hx_5, h⟩ := bG h
    refine xs 17 rfl (sf_call rfl rfl TT.enters_19 rfl (sim_ref01_High v3 ((idx l0 v4).length : Int) _ hx_5) ?_)
    refine xa 3 (pI x_4) ?_
    refine XK.nil (blN (nrm ?_))
    refine rG ?_
    refine xm 9 (pI v4) ?_
    obtain ⟨c_6, h⟩ := gG h
    refine xs 10 rfl (sf_add (a := v4) (b := (1 : Int)) rfl rfl rfl c_6 ?_)
    refine xz 4 (pI (v4 + (1 : Int))) ?_
    exact ⟨k_1, by omega, ⟨tab [(0, .d (.slice (l0.map eS))), (3, pI x_4), (4, pI (v4 + (1 : Int)))], tabH [], 0, []⟩, View.mk 0 [] _ _ _ rfl rfl (by decide) (iC (iC (iC trivial))) trivial rfl zL rfl, x_4, (v4 + (1 : Int)), by omega, jG h, rfl⟩
  · replace h := bGF h hb_2
    refine QW.exit zL (thX (thX (exE (nrm ?_))))
    refine sR ?_
    refine xm 18 (pI v3) ?_
    refine xz 2 (pI v3) ?_
    refine QW.ret zL ?_
    obtain rfl := sG h
    exact Ends.one (.inr rfl) rfl (ResIs.tmp rfl) rfl rfl
inductive C_ref13_Bytes where
  | S
  | L1 (v3 : Int) (v4 : Int)
noncomputable def step_ref13_Bytes (l0 : (List (List UInt8))) : C_ref13_Bytes → Option (C_ref13_Bytes ⊕ Int)
  | .S =>
    some (.inl (.L1 (0) (0)))
  | .L1 v3 v4 =>
    (bif (decide (v4 < (l0.length : Int))) then
    gO (0 ≤ v4 ∧ v4 < (l0.length : Int)) (
    gO (inI (v3 + ((idx l0 v4).length : Int))) (
    gO (inI (v4 + (1 : Int))) (
    some (.inl (.L1 (v3 + ((idx l0 v4).length : Int)) (v4 + (1 : Int)))))))
    else
    some (.inr v3))
noncomputable def g_ref13_Bytes (l0 : (List (List UInt8))) : Option Int := theC (step_ref13_Bytes l0) .S
theorem sim_ref13_Bytes (l0 : (List (List UInt8))) (r : Int) (h : g_ref13_Bytes l0 = some r) : Fun Try.prog 13 [.slice (l0.map eS)] (.val (.int .i64 r)) := by
  refine Fun.of_bodyQ Try.func13 rfl (by simp [Try.ntmps13]) ?_
  rw [Try.ntmps13, TT.res_13]
  refine QW.view (s' := ⟨tab [(0, .d (.slice (l0.map eS)))], tabH [], 0, []⟩) (View.init (by rfl)) zL ?_
  replace h := theC_get h
  obtain ⟨_, h⟩ := h
  obtain ⟨k_0, rfl, h9⟩ := run_succ h; replace h := h9; clear h9; rw [step_ref13_Bytes] at h
  refine sR ?_
  refine xz 2 (pI (0)) ?_
  refine sR ?_
  refine xz 3 (pI (0)) ?_
  refine QW.seq ?_
  refine sR ?_
  refine xz 4 (pI (0)) ?_
  refine QW.block ?_
  refine QW.loop (fun k σ => ∃ v3 : Int, ∃ v4 : Int, k ≤ k_0 ∧ run (step_ref13_Bytes l0) k (.L1 v3 v4) = some r ∧ σ = ⟨tab [(0, .d (.slice (l0.map eS))), (3, pI v3), (4, pI v4)], tabH [], 0, []⟩) k_0 zL ⟨⟨tab [(0, .d (.slice (l0.map eS))), (3, pI (0)), (4, pI (0))], tabH [], 0, []⟩, View.mk 0 [] _ _ _ rfl rfl (by decide) (iC (iC (iC trivial))) trivial rfl zL rfl, 0, 0, Nat.le_refl _, jG h, rfl⟩ ?_
  rintro k_1s _ ⟨v3, v4, k_1h, h, rfl⟩
  obtain ⟨k_1, rfl, h9⟩ := run_succ h; replace h := h9; clear h9; rw [step_ref13_Bytes] at h
  refine QW.seq ?_
  refine sR ?_
  refine xm 5 (pI v4) ?_
  refine xm 6 (.d (.slice (l0.map eS))) ?_
  refine xs 7 rfl (sf_lenL (en := eS) (l := l0) rfl TT.under_29 rfl ?_)
  refine xs 8 rfl (sf_lss (a := v4) (b := (l0.length : Int)) rfl rfl rfl ?_)
  refine XK.nz ?_
  refine QW.cond (t := (decide (v4 < (l0.length : Int)))) rfl zL (fun hb_2 => ?_) (fun hb_2 => ?_)
  · replace h := bGT h hb_2
    refine QW.skip zL (nrm ?_)
    refine QW.seq ?_
    refine QW.block ?_
    refine rG ?_
    refine xm 11 (pI v3) ?_
    refine xm 12 (.d (.slice (l0.map eS))) ?_
    refine xm 13 (pI v4) ?_
    obtain ⟨c_3, h⟩ := gG h
    refine xs 14 rfl (sf_idxA (l := l0) (i := v4) rfl TT.slcA_29 lay_S rfl rfl c_3 ?_)
    refine xs 15 rfl (sf_ldC (d := .val (sV (idx l0 v4))) rfl TT.tyA_9 rfl (LdC.one) ?_)
    refine xs 16 rfl (sf_lenS (l := (idx l0 v4)) rfl TT.under_9 rfl ?_)
    obtain ⟨c_4, h⟩ := gG h
    refine xs 17 rfl (sf_add (a := v3) (b := ((idx l0 v4).length : Int)) rfl rfl rfl c_4 ?_)
    refine xa 3 (pI (v3 + ((idx l0 v4).length : Int))) ?_
    refine XK.nil (blN (nrm ?_))
    refine rG ?_
    refine xm 9 (pI v4) ?_
    obtain ⟨c_5, h⟩ := gG h
    refine xs 10 rfl (sf_add (a := v4) (b := (1 : Int)) rfl rfl rfl c_5 ?_)
    refine xz 4 (pI (v4 + (1 : Int))) ?_
    exact ⟨k_1, by omega, ⟨tab [(0, .d (.slice (l0.map eS))), (3, pI (v3 + ((idx l0 v4).length : Int))), (4, pI (v4 + (1 : Int)))], tabH [], 0, []⟩, View.mk 0 [] _ _ _ rfl rfl (by decide) (iC (iC (iC trivial))) trivial rfl zL rfl, (v3 + ((idx l0 v4).length : Int)), (v4 + (1 : Int)), by omega, jG h, rfl⟩
  · replace h := bGF h hb_2
    refine QW.exit zL (thX (thX (exE (nrm ?_))))
    refine sR ?_
    refine xm 18 (pI v3) ?_
    refine xz 2 (pI v3) ?_
    refine QW.ret zL ?_
    obtain rfl := sG h
    exact Ends.one (.inr rfl) rfl (ResIs.tmp rfl) rfl rfl
inductive C_ref09_Bodies where
  | S
  | L1 (v3_2 : (List (List UInt8))) (v4 : Int)
noncomputable def step_ref09_Bodies (l0 : (List (List UInt8))) : C_ref09_Bodies → Option (C_ref09_Bodies ⊕ (List (List UInt8)))
  | .S =>
    some (.inl (.L1 ([] : (List (List UInt8))) (0)))
  | .L1 v3_2 v4 =>
    (bif (decide (v4 < (l0.length : Int))) then
    ((gO ((decide (v4 = (0 : Int))) = false → 0 ≤ v4 ∧ v4 < (l0.length : Int)) (
    (bif ((decide (v4 = (0 : Int))) || (decide ((32 : Int) ≤ ((idx l0 v4).length : Int)))) then
    gO (0 ≤ v4 ∧ v4 < (l0.length : Int)) (
    gO ((v3_2.length + ([(idx l0 v4)] : List (List UInt8)).length) * 16 ≤ 140737488355328) (
    some (v3_2 ++ ([(idx l0 v4)] : List (List UInt8)))))
    else
    some v3_2)) : Option (List (List UInt8))).bind fun (v3_5 : (List (List UInt8))) =>
    gO (inI (v4 + (1 : Int))) (
    some (.inl (.L1 v3_5 (v4 + (1 : Int))))))
    else
    some (.inr v3_2))
noncomputable def g_ref09_Bodies (l0 : (List (List UInt8))) : Option (List (List UInt8)) := theC (step_ref09_Bodies l0) .S
theorem sim_ref09_Bodies (l0 : (List (List UInt8))) (r : (List (List UInt8))) (h : g_ref09_Bodies l0 = some r) : Fun Try.prog 16 [.slice (l0.map eS)] (.slice (r.map eS)) := by
  refine Fun.of_bodyQ Try.func16 rfl (by simp [Try.ntmps16]) ?_
  rw [Try.ntmps16, TT.res_16]
  refine QW.view (s' := ⟨tab [(0, .d (.slice (l0.map eS)))], tabH [], 0, []⟩) (View.init (by rfl)) zL ?_
  replace h := theC_get h
  obtain ⟨_, h⟩ := h
  obtain ⟨k_0, rfl, h9⟩ := run_succ h; replace h := h9; clear h9; rw [step_ref09_Bodies] at h
  refine sR ?_
  refine xz 2 (.full (([] : (List (List UInt8))).map eS)) ?_
  refine sR ?_
  refine xz 3 (.full (([] : (List (List UInt8))).map eS)) ?_
  refine QW.seq ?_
  refine sR ?_
  refine xz 4 (pI (0)) ?_
  refine QW.block ?_
  refine QW.loop (fun k σ => ∃ v3_2 : (List (List UInt8)), ∃ v4 : Int, k ≤ k_0 ∧ run (step_ref09_Bodies l0) k (.L1 v3_2 v4) = some r ∧ σ = ⟨tab [(0, .d (.slice (l0.map eS))), (3, .own 0 (v3_2.map eS)), (4, pI v4)], tabH [.spare 1 v3_2.length], 1, []⟩) k_0 zL ⟨⟨tab [(0, .d (.slice (l0.map eS))), (3, .own 0 (([] : (List (List UInt8))).map eS)), (4, pI (0))], tabH [.spare 1 ([] : (List (List UInt8))).length], 1, []⟩, View.trans (View.buf 3 1 rfl zL) (View.mk 1 [0] _ _ _ rfl rfl (by decide) (iC (iC (iC trivial))) (And.intro rfl trivial) rfl zL rfl), ([] : (List (List UInt8))), 0, Nat.le_refl _, jG h, rfl⟩ ?_
  rintro k_1s _ ⟨v3_2, v4, k_1h, h, rfl⟩
  obtain ⟨k_1, rfl, h9⟩ := run_succ h; replace h := h9; clear h9; rw [step_ref09_Bodies] at h
  refine QW.seq ?_
  refine sR ?_
  refine xm 5 (pI v4) ?_
  refine xm 6 (.d (.slice (l0.map eS))) ?_
  refine xs 7 rfl (sf_lenL (en := eS) (l := l0) rfl TT.under_29 rfl ?_)
  refine xs 8 rfl (sf_lss (a := v4) (b := (l0.length : Int)) rfl rfl rfl ?_)
  refine XK.nz ?_
  refine QW.cond (t := (decide (v4 < (l0.length : Int)))) rfl zL (fun hb_2 => ?_) (fun hb_2 => ?_)
  · replace h := bGT h hb_2
    refine QW.skip zL (nrm ?_)
    obtain ⟨v3_5, hq, h⟩ := bG h
    refine QW.seqI (fun s' => s' = ⟨tab [(0, .d (.slice (l0.map eS))), (3, .own 0 (v3_5.map eS)), (4, pI v4)], tabH [.spare 1 v3_5.length], 1, []⟩) ?_ ?_
    · replace h := hq; clear hq
      refine QW.block ?_
      refine sR ?_
      refine xm 11 (pI v4) ?_
      refine xs 12 rfl (sf_eq (a := v4) (b := (0 : Int)) rfl rfl rfl ?_)
      refine xm 13 (pB (decide (v4 = (0 : Int)))) ?_
      refine xg 14 (.d (.slice (l0.map eS))) rfl rfl (fun hg => sf_move (v := .d (.slice (l0.map eS))) rfl rfl g3) ?_
      refine xg 15 (pI v4) rfl rfl (fun hg => sf_move (v := pI v4) rfl rfl g3) ?_
      obtain ⟨c_3, h⟩ := gO_get h
      refine xg 16 (.d (.cptr ([.val (sV (idx l0 v4))]))) rfl rfl (fun hg => sf_idxA (l := l0) (i := v4) rfl TT.slcA_29 lay_S rfl rfl (c_3 (eqB hg)) g3) ?_
      refine xg 17 (pS (idx l0 v4)) rfl rfl (fun hg => sf_ldC (d := .val (sV (idx l0 v4))) rfl TT.tyA_9 rfl (LdC.one) g3) ?_
      refine xg 18 (pI ((idx l0 v4).length : Int)) rfl rfl (fun hg => sf_lenS (l := (idx l0 v4)) rfl TT.under_9 rfl g3) ?_
      refine xg 19 (pB (decide ((32 : Int) ≤ ((idx l0 v4).length : Int)))) rfl rfl (fun hg => sf_geq (a := ((idx l0 v4).length : Int)) (b := (32 : Int)) rfl rfl rfl g3) ?_
      refine xs 20 rfl (sf_pickO rfl rfl rfl rfl (fun _ => rfl) (fun hb => by rw [hb]; rfl) ?_)
      refine XK.nz ?_
      refine QW.cond (t := ((decide (v4 = (0 : Int))) || (decide ((32 : Int) ≤ ((idx l0 v4).length : Int))))) rfl zL (fun hb_4 => ?_) (fun hb_4 => ?_)
      · replace h := bT h hb_4
        refine rG ?_
        refine xm 21 (.own 0 (v3_2.map eS)) ?_
        refine xm 22 (.d (.slice (l0.map eS))) ?_
        refine xm 23 (pI v4) ?_
        obtain ⟨c_5, h⟩ := gO_get h
        refine xs 24 rfl (sf_idxA (l := l0) (i := v4) rfl TT.slcA_29 lay_S rfl rfl c_5 ?_)
        refine xs 25 rfl (sf_ldC (d := .val (sV (idx l0 v4))) rfl TT.tyA_9 rfl (LdC.one) ?_)
        refine xs 26 rfl (sf_row (en := eS) (l := ([(idx l0 v4)] : List (List UInt8))) rfl TT.rowA_29 lay_S rfl rfl (by decide) (by simp [solids, partsP, evP, ofVal, PV.solid, putS_at, tab, unS, unT, unC, asCond, Value.oneCell']) ?_)
        obtain ⟨c_6, h⟩ := gO_get h
        refine xs 27 rfl (sf_appO (en := eS) (l := v3_2) (l2 := ([(idx l0 v4)] : List (List UInt8))) rfl TT.rowA_29 TT.under_29 rfl lay_S rfl rfl rfl c_6 (by decide) ?_)
        refine xa 3 (.own 1 ((v3_2 ++ ([(idx l0 v4)] : List (List UInt8))).map eS)) ?_
        refine XK.nil (blN (nrm ?_))
        obtain rfl := sO h
        exact ⟨⟨tab [(0, .d (.slice (l0.map eS))), (3, .own 0 ((v3_2 ++ ([(idx l0 v4)] : List (List UInt8))).map eS)), (4, pI v4)], tabH [.spare 1 (v3_2 ++ ([(idx l0 v4)] : List (List UInt8))).length], 1, []⟩, View.mk 1 [1] _ _ _ rfl rfl (by decide) (iC (iC (iC trivial))) (And.intro rfl trivial) rfl zL rfl, rfl⟩
      · replace h := bF h hb_4
        refine QW.skip zL (blN (nrm ?_))
        obtain rfl := sO h
        exact ⟨⟨tab [(0, .d (.slice (l0.map eS))), (3, .own 0 (v3_2.map eS)), (4, pI v4)], tabH [.spare 1 v3_2.length], 1, []⟩, View.mk 1 [0] _ _ _ rfl rfl (by decide) (iC (iC (iC trivial))) (And.intro rfl trivial) rfl zL rfl, rfl⟩
    · rintro _ rfl
      refine rG ?_
      refine xm 9 (pI v4) ?_
      obtain ⟨c_7, h⟩ := gG h
      refine xs 10 rfl (sf_add (a := v4) (b := (1 : Int)) rfl rfl rfl c_7 ?_)
      refine xz 4 (pI (v4 + (1 : Int))) ?_
      exact ⟨k_1, by omega, ⟨tab [(0, .d (.slice (l0.map eS))), (3, .own 0 (v3_5.map eS)), (4, pI (v4 + (1 : Int)))], tabH [.spare 1 v3_5.length], 1, []⟩, View.mk 1 [0] _ _ _ rfl rfl (by decide) (iC (iC (iC trivial))) (And.intro rfl trivial) rfl zL rfl, v3_5, (v4 + (1 : Int)), by omega, jG h, rfl⟩
  · replace h := bGF h hb_2
    refine QW.exit zL (thX (thX (exE (nrm ?_))))
    refine sR ?_
    refine xm 28 (.own 0 (v3_2.map eS)) ?_
    refine xz 2 (.own 0 (v3_2.map eS)) ?_
    refine QW.ret zL ?_
    obtain rfl := sG h
    exact Ends.one (.inr rfl) rfl (ResIs.tmp rfl) rfl rfl
inductive C_ref09_Weight where
  | S
  | L1 (v3 : Int) (v4 : Int)
noncomputable def step_ref09_Weight (l0 : (List (List UInt8))) : C_ref09_Weight → Option (C_ref09_Weight ⊕ Int)
  | .S =>
    some (.inl (.L1 (0) (0)))
  | .L1 v3 v4 =>
    (bif (decide (v4 < (l0.length : Int))) then
    gO (0 ≤ v4 ∧ v4 < (l0.length : Int)) (
    gO (inI (v3 + ((idx l0 v4).length : Int))) (
    gO (inI (v4 + (1 : Int))) (
    some (.inl (.L1 (v3 + ((idx l0 v4).length : Int)) (v4 + (1 : Int)))))))
    else
    some (.inr v3))
noncomputable def g_ref09_Weight (l0 : (List (List UInt8))) : Option Int := theC (step_ref09_Weight l0) .S
theorem sim_ref09_Weight (l0 : (List (List UInt8))) (r : Int) (h : g_ref09_Weight l0 = some r) : Fun Try.prog 15 [.slice (l0.map eS)] (.val (.int .i64 r)) := by
  refine Fun.of_bodyQ Try.func15 rfl (by simp [Try.ntmps15]) ?_
  rw [Try.ntmps15, TT.res_15]
  refine QW.view (s' := ⟨tab [(0, .d (.slice (l0.map eS)))], tabH [], 0, []⟩) (View.init (by rfl)) zL ?_
  replace h := theC_get h
  obtain ⟨_, h⟩ := h
  obtain ⟨k_0, rfl, h9⟩ := run_succ h; replace h := h9; clear h9; rw [step_ref09_Weight] at h
  refine sR ?_
  refine xz 2 (pI (0)) ?_
  refine sR ?_
  refine xz 3 (pI (0)) ?_
  refine QW.seq ?_
  refine sR ?_
  refine xz 4 (pI (0)) ?_
  refine QW.block ?_
  refine QW.loop (fun k σ => ∃ v3 : Int, ∃ v4 : Int, k ≤ k_0 ∧ run (step_ref09_Weight l0) k (.L1 v3 v4) = some r ∧ σ = ⟨tab [(0, .d (.slice (l0.map eS))), (3, pI v3), (4, pI v4)], tabH [], 0, []⟩) k_0 zL ⟨⟨tab [(0, .d (.slice (l0.map eS))), (3, pI (0)), (4, pI (0))], tabH [], 0, []⟩, View.mk 0 [] _ _ _ rfl rfl (by decide) (iC (iC (iC trivial))) trivial rfl zL rfl, 0, 0, Nat.le_refl _, jG h, rfl⟩ ?_
  rintro k_1s _ ⟨v3, v4, k_1h, h, rfl⟩
  obtain ⟨k_1, rfl, h9⟩ := run_succ h; replace h := h9; clear h9; rw [step_ref09_Weight] at h
  refine QW.seq ?_
  refine sR ?_
  refine xm 5 (pI v4) ?_
  refine xm 6 (.d (.slice (l0.map eS))) ?_
  refine xs 7 rfl (sf_lenL (en := eS) (l := l0) rfl TT.under_29 rfl ?_)
  refine xs 8 rfl (sf_lss (a := v4) (b := (l0.length : Int)) rfl rfl rfl ?_)
  refine XK.nz ?_
  refine QW.cond (t := (decide (v4 < (l0.length : Int)))) rfl zL (fun hb_2 => ?_) (fun hb_2 => ?_)
  · replace h := bGT h hb_2
    refine QW.skip zL (nrm ?_)
    refine QW.seq ?_
    refine QW.block ?_
    refine rG ?_
    refine xm 11 (pI v3) ?_
    refine xm 12 (.d (.slice (l0.map eS))) ?_
    refine xm 13 (pI v4) ?_
    obtain ⟨c_3, h⟩ := gG h
    refine xs 14 rfl (sf_idxA (l := l0) (i := v4) rfl TT.slcA_29 lay_S rfl rfl c_3 ?_)
    refine xs 15 rfl (sf_ldC (d := .val (sV (idx l0 v4))) rfl TT.tyA_9 rfl (LdC.one) ?_)
    refine xs 16 rfl (sf_lenS (l := (idx l0 v4)) rfl TT.under_9 rfl ?_)
    obtain ⟨c_4, h⟩ := gG h
    refine xs 17 rfl (sf_add (a := v3) (b := ((idx l0 v4).length : Int)) rfl rfl rfl c_4 ?_)
    refine xa 3 (pI (v3 + ((idx l0 v4).length : Int))) ?_
    refine XK.nil (blN (nrm ?_))
    refine rG ?_
    refine xm 9 (pI v4) ?_
    obtain ⟨c_5, h⟩ := gG h
    refine xs 10 rfl (sf_add (a := v4) (b := (1 : Int)) rfl rfl rfl c_5 ?_)
    refine xz 4 (pI (v4 + (1 : Int))) ?_
    exact ⟨k_1, by omega, ⟨tab [(0, .d (.slice (l0.map eS))), (3, pI (v3 + ((idx l0 v4).length : Int))), (4, pI (v4 + (1 : Int)))], tabH [], 0, []⟩, View.mk 0 [] _ _ _ rfl rfl (by decide) (iC (iC (iC trivial))) trivial rfl zL rfl, (v3 + ((idx l0 v4).length : Int)), (v4 + (1 : Int)), by omega, jG h, rfl⟩
  · replace h := bGF h hb_2
    refine QW.exit zL (thX (thX (exE (nrm ?_))))
    refine sR ?_
    refine xm 18 (pI v3) ?_
    refine xz 2 (pI v3) ?_
    refine QW.ret zL ?_
    obtain rfl := sG h
    exact Ends.one (.inr rfl) rfl (ResIs.tmp rfl) rfl rfl
end Go.Proofs.Ytfnlcnnoedmfiaa.K
