/- Package sum: what it reckons. -/
import Derived.Test.YthpgedneniekmaaAWR47
import Derived.KernelRfl
namespace Go.Proofs.Ythpgedneniekmaa.K
open Go Go.RowKit
set_option linter.unusedSimpArgs false
set_option linter.unusedVariables false
set_option maxRecDepth 20000
set_option maxHeartbeats 4000000
namespace TT
theorem arrA_66 : arrA Try.prog 66 = some (8, 1, false) := by kernel_rfl
theorem arrA_95 : arrA Try.prog 95 = some (64, 1, false) := by kernel_rfl
theorem bldA_66 : bldA Try.prog 66 = some ([Value.int IntKind.u32 0, Value.int IntKind.u32 0, Value.int IntKind.u32 0, Value.int IntKind.u32 0, Value.int IntKind.u32 0, Value.int IntKind.u32 0, Value.int IntKind.u32 0, Value.int IntKind.u32 0], .inr 1) := by kernel_rfl
theorem bldA_95 : bldA Try.prog 95 = some ([Value.int IntKind.u32 0, Value.int IntKind.u32 0, Value.int IntKind.u32 0, Value.int IntKind.u32 0, Value.int IntKind.u32 0, Value.int IntKind.u32 0, Value.int IntKind.u32 0, Value.int IntKind.u32 0, Value.int IntKind.u32 0, Value.int IntKind.u32 0, Value.int IntKind.u32 0, Value.int IntKind.u32 0, Value.int IntKind.u32 0, Value.int IntKind.u32 0, Value.int IntKind.u32 0, Value.int IntKind.u32 0, Value.int IntKind.u32 0, Value.int IntKind.u32 0, Value.int IntKind.u32 0, Value.int IntKind.u32 0, Value.int IntKind.u32 0, Value.int IntKind.u32 0, Value.int IntKind.u32 0, Value.int IntKind.u32 0, Value.int IntKind.u32 0, Value.int IntKind.u32 0, Value.int IntKind.u32 0, Value.int IntKind.u32 0, Value.int IntKind.u32 0, Value.int IntKind.u32 0, Value.int IntKind.u32 0, Value.int IntKind.u32 0, Value.int IntKind.u32 0, Value.int IntKind.u32 0, Value.int IntKind.u32 0, Value.int IntKind.u32 0, Value.int IntKind.u32 0, Value.int IntKind.u32 0, Value.int IntKind.u32 0, Value.int IntKind.u32 0, Value.int IntKind.u32 0, Value.int IntKind.u32 0, Value.int IntKind.u32 0, Value.int IntKind.u32 0, Value.int IntKind.u32 0, Value.int IntKind.u32 0, Value.int IntKind.u32 0, Value.int IntKind.u32 0, Value.int IntKind.u32 0, Value.int IntKind.u32 0, Value.int IntKind.u32 0, Value.int IntKind.u32 0, Value.int IntKind.u32 0, Value.int IntKind.u32 0, Value.int IntKind.u32 0, Value.int IntKind.u32 0, Value.int IntKind.u32 0, Value.int IntKind.u32 0, Value.int IntKind.u32 0, Value.int IntKind.u32 0, Value.int IntKind.u32 0, Value.int IntKind.u32 0, Value.int IntKind.u32 0, Value.int IntKind.u32 0], .inr 1) := by kernel_rfl
theorem enters_24 : entersB Try.prog 24 = true := by kernel_rfl
theorem enters_25 : entersB Try.prog 25 = true := by kernel_rfl
theorem enters_26 : entersB Try.prog 26 = true := by kernel_rfl
theorem enters_48 : entersB Try.prog 48 = true := by kernel_rfl
theorem enters_49 : entersB Try.prog 49 = true := by kernel_rfl
theorem enters_50 : entersB Try.prog 50 = true := by kernel_rfl
theorem enters_67 : entersB Try.prog 67 = true := by kernel_rfl
theorem enters_68 : entersB Try.prog 68 = true := by kernel_rfl
theorem enters_69 : entersB Try.prog 69 = true := by kernel_rfl
theorem res_15 : Try.f15.results.toList = [.cell 2 41] := rfl
theorem res_24 : Try.f24.results.toList = [.cell 0 66] := rfl
theorem res_25 : Try.f25.results.toList = [.tmp 2] := rfl
theorem res_26 : Try.f26.results.toList = [.cell 4 66] := rfl
theorem res_48 : Try.f48.results.toList = [.cell 2 95] := rfl
theorem res_49 : Try.f49.results.toList = [.cell 0 95] := rfl
theorem res_50 : Try.f50.results.toList = [.tmp 10] := rfl
theorem res_67 : Try.f67.results.toList = [.tmp 2] := rfl
theorem res_68 : Try.f68.results.toList = [.tmp 3] := rfl
theorem res_69 : Try.f69.results.toList = [.tmp 4] := rfl
theorem slcA_41 : slcA Try.prog 41 = none := by kernel_rfl
theorem slcA_66 : slcA Try.prog 66 = none := by kernel_rfl
theorem slcA_95 : slcA Try.prog 95 = none := by kernel_rfl
theorem tyA_65 : tyA Try.prog 65 = some (false, 1) := by kernel_rfl
theorem tyA_66 : tyA Try.prog 66 = some (true, 8) := by kernel_rfl
theorem tyA_95 : tyA Try.prog 95 = some (true, 64) := by kernel_rfl
theorem under_65 : Program.underlying Try.prog 65 = some (.int .u32) := by kernel_rfl
theorem zeroA_41 : zeroA Try.prog 41 = some [Value.int IntKind.u8 0, Value.int IntKind.u8 0, Value.int IntKind.u8 0, Value.int IntKind.u8 0, Value.int IntKind.u8 0, Value.int IntKind.u8 0, Value.int IntKind.u8 0, Value.int IntKind.u8 0, Value.int IntKind.u8 0, Value.int IntKind.u8 0, Value.int IntKind.u8 0, Value.int IntKind.u8 0, Value.int IntKind.u8 0, Value.int IntKind.u8 0, Value.int IntKind.u8 0, Value.int IntKind.u8 0, Value.int IntKind.u8 0, Value.int IntKind.u8 0, Value.int IntKind.u8 0, Value.int IntKind.u8 0, Value.int IntKind.u8 0, Value.int IntKind.u8 0, Value.int IntKind.u8 0, Value.int IntKind.u8 0, Value.int IntKind.u8 0, Value.int IntKind.u8 0, Value.int IntKind.u8 0, Value.int IntKind.u8 0, Value.int IntKind.u8 0, Value.int IntKind.u8 0, Value.int IntKind.u8 0, Value.int IntKind.u8 0] := by kernel_rfl
theorem zeroA_66 : zeroA Try.prog 66 = some [Value.int IntKind.u32 0, Value.int IntKind.u32 0, Value.int IntKind.u32 0, Value.int IntKind.u32 0, Value.int IntKind.u32 0, Value.int IntKind.u32 0, Value.int IntKind.u32 0, Value.int IntKind.u32 0] := by kernel_rfl
theorem zeroA_95 : zeroA Try.prog 95 = some [Value.int IntKind.u32 0, Value.int IntKind.u32 0, Value.int IntKind.u32 0, Value.int IntKind.u32 0, Value.int IntKind.u32 0, Value.int IntKind.u32 0, Value.int IntKind.u32 0, Value.int IntKind.u32 0, Value.int IntKind.u32 0, Value.int IntKind.u32 0, Value.int IntKind.u32 0, Value.int IntKind.u32 0, Value.int IntKind.u32 0, Value.int IntKind.u32 0, Value.int IntKind.u32 0, Value.int IntKind.u32 0, Value.int IntKind.u32 0, Value.int IntKind.u32 0, Value.int IntKind.u32 0, Value.int IntKind.u32 0, Value.int IntKind.u32 0, Value.int IntKind.u32 0, Value.int IntKind.u32 0, Value.int IntKind.u32 0, Value.int IntKind.u32 0, Value.int IntKind.u32 0, Value.int IntKind.u32 0, Value.int IntKind.u32 0, Value.int IntKind.u32 0, Value.int IntKind.u32 0, Value.int IntKind.u32 0, Value.int IntKind.u32 0, Value.int IntKind.u32 0, Value.int IntKind.u32 0, Value.int IntKind.u32 0, Value.int IntKind.u32 0, Value.int IntKind.u32 0, Value.int IntKind.u32 0, Value.int IntKind.u32 0, Value.int IntKind.u32 0, Value.int IntKind.u32 0, Value.int IntKind.u32 0, Value.int IntKind.u32 0, Value.int IntKind.u32 0, Value.int IntKind.u32 0, Value.int IntKind.u32 0, Value.int IntKind.u32 0, Value.int IntKind.u32 0, Value.int IntKind.u32 0, Value.int IntKind.u32 0, Value.int IntKind.u32 0, Value.int IntKind.u32 0, Value.int IntKind.u32 0, Value.int IntKind.u32 0, Value.int IntKind.u32 0, Value.int IntKind.u32 0, Value.int IntKind.u32 0, Value.int IntKind.u32 0, Value.int IntKind.u32 0, Value.int IntKind.u32 0, Value.int IntKind.u32 0, Value.int IntKind.u32 0, Value.int IntKind.u32 0, Value.int IntKind.u32 0] := by kernel_rfl
end TT
noncomputable def g_sum_first  : Option (Arr 8 (BitVec 32)) :=
    some (⟨[(1779033703 : BitVec 32), (3144134277 : BitVec 32), (1013904242 : BitVec 32), (2773480762 : BitVec 32), (1359893119 : BitVec 32), (2600822924 : BitVec 32), (528734635 : BitVec 32), (1541459225 : BitVec 32)], rfl⟩ : (Arr 8 (BitVec 32)))
theorem sim_sum_first  (r : (Arr 8 (BitVec 32))) (h : g_sum_first  = some r) : Fun Try.prog 24 [] (.agg (r.1.map e32)) := by
  refine Fun.of_bodyQ Try.func24 rfl (by simp [Try.ntmps24]) ?_
  rw [Try.ntmps24, TT.res_24]
  refine QW.view (s' := ⟨tab [], tabH [], 0, []⟩) (View.init (by rfl)) zL ?_
  unfold g_sum_first at h
  refine sR ?_
  refine xs 0 rfl (sf_alloc (l := (((Arr.rep 8 (0 : BitVec 32)).1.map e32).map .d)) rfl TT.zeroA_66 rfl rfl ?_)
  refine XK.nz ?_
  refine sR ?_
  refine XK.as (some 1) rfl rfl (sf_build (v := .agg [.d (.val (.int .u32 ((1779033703 : BitVec 32).toNat : Int))), .d (.val (.int .u32 ((3144134277 : BitVec 32).toNat : Int))), .d (.val (.int .u32 ((1013904242 : BitVec 32).toNat : Int))), .d (.val (.int .u32 ((2773480762 : BitVec 32).toNat : Int))), .d (.val (.int .u32 ((1359893119 : BitVec 32).toNat : Int))), .d (.val (.int .u32 ((2600822924 : BitVec 32).toNat : Int))), .d (.val (.int .u32 ((528734635 : BitVec 32).toNat : Int))), .d (.val (.int .u32 ((1541459225 : BitVec 32).toNat : Int)))]) rfl (by rw [TT.bldA_66]; simp [buildP, fillP, placeOf, partsQ, evP, PV.solid, PV.cellsP, Value.oneCell', spl, cellV, ofVal, List.all, putS_at, tab, unS, unT, asCond, unC]) (by rw [TT.bldA_66]; rfl) ⟨.d (.agg ((⟨[(1779033703 : BitVec 32), (3144134277 : BitVec 32), (1013904242 : BitVec 32), (2773480762 : BitVec 32), (1359893119 : BitVec 32), (2600822924 : BitVec 32), (528734635 : BitVec 32), (1541459225 : BitVec 32)], rfl⟩ : (Arr 8 (BitVec 32))).1.map e32)), (Imp.toD rfl), ?_⟩)
  refine XK.st none rfl rfl (sf_stV (l' := (((⟨[(1779033703 : BitVec 32), (3144134277 : BitVec 32), (1013904242 : BitVec 32), (2773480762 : BitVec 32), (1359893119 : BitVec 32), (2600822924 : BitVec 32), (528734635 : BitVec 32), (1541459225 : BitVec 32)], rfl⟩ : (Arr 8 (BitVec 32))).1.map e32).map .d)) rfl TT.tyA_66 rfl rfl rfl rfl rfl (len_map2 _) (le_map2 _) (spl_same ((len_map2 _).trans (len_map2 _).symm)) ?_)
  refine XK.nz ?_
  refine QW.ret zL ?_
  obtain rfl := sO h
  exact Ends.one (.inr rfl) rfl (ResIs.cell rfl rfl TT.tyA_66 (ldv_all (by decide))) (toD_agg toDs_map) rfl
inductive C_sum_filled where
  | S
  | L1 (v3 : (List UInt8))
  | L2 (v3_4 : (List UInt8)) (v4_2 : (List UInt8)) (v5 : Int)
noncomputable def step_sum_filled (s0 : (List UInt8)) : C_sum_filled → Option (C_sum_filled ⊕ (List UInt8))
  | .S =>
    gO (s0.length ≤ 9223372036854775807) (
    gO ((s0.length + ([(128 : UInt8)] : List UInt8).length) * 1 ≤ 140737488355328) (
    some (.inl (.L1 (s0 ++ ([(128 : UInt8)] : List UInt8))))))
  | .L1 v3 =>
    (bif (!decide (((v3.length : Int).tmod (64 : Int)) = (56 : Int))) then
    gO ((v3.length + ([(0 : UInt8)] : List UInt8).length) * 1 ≤ 140737488355328) (
    some (.inl (.L1 (v3 ++ ([(0 : UInt8)] : List UInt8)))))
    else
    ((g_wide_Num ((BitVec.ofInt 64 (s0.length : Int)) * (8 : BitVec 64)) (8)).bind fun (x_6 : (List UInt8)) =>
    some (.inl (.L2 v3 x_6 (7)))))
  | .L2 v3_4 v4_2 v5 =>
    (bif (decide ((0 : Int) ≤ v5)) then
    gO (0 ≤ v5 ∧ v5 < (v4_2.length : Int)) (
    gO ((v3_4.length + ([(idx v4_2 v5)] : List UInt8).length) * 1 ≤ 140737488355328) (
    gO (inI (v5 - (1 : Int))) (
    some (.inl (.L2 (v3_4 ++ ([(idx v4_2 v5)] : List UInt8)) v4_2 (v5 - (1 : Int)))))))
    else
    some (.inr v3_4))
noncomputable def g_sum_filled (s0 : (List UInt8)) : Option (List UInt8) := theC (step_sum_filled s0) .S
theorem sim_sum_filled (s0 : (List UInt8)) (r : (List UInt8)) (h : g_sum_filled s0 = some r) : Fun Try.prog 25 [.val (sV s0)] (.val (sV r)) := by
  refine Fun.of_bodyQ Try.func25 rfl (by simp [Try.ntmps25]) ?_
  rw [Try.ntmps25, TT.res_25]
  refine QW.view (s' := ⟨tab [(0, pS s0)], tabH [], 0, []⟩) (View.init (by rfl)) zL ?_
  replace h := theC_get h
  obtain ⟨_, h⟩ := h
  obtain ⟨k_0, rfl, h9⟩ := run_succ h; replace h := h9; clear h9; rw [step_sum_filled] at h
  refine sR ?_
  refine xz 2 (pS ([] : List UInt8)) ?_
  refine sR ?_
  refine xm 6 (pS s0) ?_
  obtain ⟨c_1, h⟩ := gG h
  refine XK.s2r (l := s0) (some 7) rfl rfl rfl TT.under_9 TT.under_78 TT.under_5 rfl c_1 ?_
  refine xs 8 rfl (sf_row (en := byteD) (l := ([(128 : UInt8)] : List UInt8)) rfl TT.rowA_78 lay_byte rfl rfl (by decide) (by simp [solids, partsP, evP, ofVal, PV.solid, putS_at, tab, unS, unT, unC, asCond, Value.oneCell']) ?_)
  obtain ⟨c_2, h⟩ := gG h
  refine xs 9 rfl (sf_appO (en := byteD) (l := s0) (l2 := ([(128 : UInt8)] : List UInt8)) rfl TT.rowA_78 TT.under_78 rfl lay_byte rfl rfl rfl c_2 (by decide) ?_)
  refine xz 3 (.own 1 ((s0 ++ ([(128 : UInt8)] : List UInt8)).map byteD)) ?_
  refine QW.seq ?_
  refine QW.block ?_
  refine QW.loop (fun k σ => ∃ v3 : (List UInt8), k ≤ k_0 ∧ run (step_sum_filled s0) k (.L1 v3) = some r ∧ σ = ⟨tab [(0, pS s0), (3, .own 0 (v3.map byteD))], tabH [.spare 1 v3.length], 1, []⟩) k_0 zL ⟨⟨tab [(0, pS s0), (3, .own 0 ((s0 ++ ([(128 : UInt8)] : List UInt8)).map byteD))], tabH [.spare 1 (s0 ++ ([(128 : UInt8)] : List UInt8)).length], 1, []⟩, View.mk 1 [1] _ _ _ rfl rfl (by decide) (iC (iC trivial)) (And.intro rfl trivial) rfl zL rfl, (s0 ++ ([(128 : UInt8)] : List UInt8)), Nat.le_refl _, jG h, rfl⟩ ?_
  rintro k_3s _ ⟨v3, k_3h, h, rfl⟩
  obtain ⟨k_3, rfl, h9⟩ := run_succ h; replace h := h9; clear h9; rw [step_sum_filled] at h
  refine QW.seq ?_
  refine sR ?_
  refine xm 10 (.own 0 (v3.map byteD)) ?_
  refine xs 11 rfl (sf_lenL (en := byteD) (l := v3) rfl TT.under_78 rfl ?_)
  refine xs 12 rfl (sf_rem (a := (v3.length : Int)) (b := (64 : Int)) rfl rfl rfl (by decide) ?_)
  refine xs 13 rfl (sf_ne (a := ((v3.length : Int).tmod (64 : Int))) (b := (56 : Int)) rfl rfl rfl ?_)
  refine XK.nz ?_
  refine QW.cond (t := (!decide (((v3.length : Int).tmod (64 : Int)) = (56 : Int)))) rfl zL (fun hb_4 => ?_) (fun hb_4 => ?_)
  · replace h := bGT h hb_4
    refine QW.skip zL (nrm ?_)
    refine QW.block ?_
    refine rG ?_
    refine xm 14 (.own 0 (v3.map byteD)) ?_
    refine xs 15 rfl (sf_row (en := byteD) (l := ([(0 : UInt8)] : List UInt8)) rfl TT.rowA_78 lay_byte rfl rfl (by decide) (by simp [solids, partsP, evP, ofVal, PV.solid, putS_at, tab, unS, unT, unC, asCond, Value.oneCell']) ?_)
    obtain ⟨c_5, h⟩ := gG h
    refine xs 16 rfl (sf_appO (en := byteD) (l := v3) (l2 := ([(0 : UInt8)] : List UInt8)) rfl TT.rowA_78 TT.under_78 rfl lay_byte rfl rfl rfl c_5 (by decide) ?_)
    refine xa 3 (.own 1 ((v3 ++ ([(0 : UInt8)] : List UInt8)).map byteD)) ?_
    refine XK.nil (blN (nrm ?_))
    exact ⟨k_3, by omega, ⟨tab [(0, pS s0), (3, .own 0 ((v3 ++ ([(0 : UInt8)] : List UInt8)).map byteD))], tabH [.spare 1 (v3 ++ ([(0 : UInt8)] : List UInt8)).length], 1, []⟩, View.mk 1 [1] _ _ _ rfl rfl (by decide) (iC (iC trivial)) (And.intro rfl trivial) rfl zL rfl, (v3 ++ ([(0 : UInt8)] : List UInt8)), by omega, jG h, rfl⟩
  · replace h := bGF h hb_4
    refine QW.exit zL (thX (thX (exE (nrm ?_))))
    refine sR ?_
    refine xm 17 (pS s0) ?_
    refine xs 18 rfl (sf_lenS (l := s0) rfl TT.under_9 rfl ?_)
    refine xs 19 rfl (sf_toW (n := (s0.length : Int)) rfl TT.under_3 TT.under_77 rfl ?_)
    refine xs 20 rfl (sf_wmul' (a := (BitVec.ofInt 64 (s0.length : Int))) (b := (8 : BitVec 64)) rfl rfl rfl ?_)
    obtain ⟨x_6, hx_7, h⟩ := bG h
    refine xs 21 rfl (sf_call rfl rfl TT.enters_32 rfl (sim_wide_Num ((BitVec.ofInt 64 (s0.length : Int)) * (8 : BitVec 64)) (8) _ hx_7) ?_)
    refine xz 4 (pS x_6) ?_
    refine QW.seq ?_
    refine sR ?_
    refine xz 5 (pI (7)) ?_
    refine QW.block ?_
    refine QW.loop (fun k σ => ∃ v3_4 : (List UInt8), ∃ v4_2 : (List UInt8), ∃ v5 : Int, k ≤ k_3 ∧ run (step_sum_filled s0) k (.L2 v3_4 v4_2 v5) = some r ∧ σ = ⟨tab [(3, .own 0 (v3_4.map byteD)), (4, pS v4_2), (5, pI v5)], tabH [.spare 1 v3_4.length], 1, []⟩) k_3 zL ⟨⟨tab [(3, .own 0 (v3.map byteD)), (4, pS x_6), (5, pI (7))], tabH [.spare 1 v3.length], 1, []⟩, View.mk 1 [0] _ _ _ rfl rfl (by decide) (iC (iC (iC trivial))) (And.intro rfl trivial) rfl zL rfl, v3, x_6, 7, Nat.le_refl _, jG h, rfl⟩ ?_
    rintro k_8s _ ⟨v3_4, v4_2, v5, k_8h, h, rfl⟩
    obtain ⟨k_8, rfl, h9⟩ := run_succ h; replace h := h9; clear h9; rw [step_sum_filled] at h
    refine QW.seq ?_
    refine sR ?_
    refine xm 22 (pI v5) ?_
    refine xs 23 rfl (sf_geq (a := v5) (b := (0 : Int)) rfl rfl rfl ?_)
    refine XK.nz ?_
    refine QW.cond (t := (decide ((0 : Int) ≤ v5))) rfl zL (fun hb_9 => ?_) (fun hb_9 => ?_)
    · replace h := bGT h hb_9
      refine QW.skip zL (nrm ?_)
      refine QW.seq ?_
      refine QW.block ?_
      refine rG ?_
      refine xm 26 (.own 0 (v3_4.map byteD)) ?_
      refine xm 27 (pS v4_2) ?_
      refine xm 28 (pI v5) ?_
      obtain ⟨c_10, h⟩ := gG h
      refine xs 29 rfl (sf_idxS (l := v4_2) (i := v5) rfl TT.under_9 TT.arrA_9 rfl rfl c_10 ?_)
      refine xs 30 rfl (sf_row (en := byteD) (l := ([(idx v4_2 v5)] : List UInt8)) rfl TT.rowA_78 lay_byte rfl rfl (by decide) (by simp [solids, partsP, evP, ofVal, PV.solid, putS_at, tab, unS, unT, unC, asCond, Value.oneCell']) ?_)
      obtain ⟨c_11, h⟩ := gG h
      refine xs 31 rfl (sf_appO (en := byteD) (l := v3_4) (l2 := ([(idx v4_2 v5)] : List UInt8)) rfl TT.rowA_78 TT.under_78 rfl lay_byte rfl rfl rfl c_11 (by decide) ?_)
      refine xa 3 (.own 1 ((v3_4 ++ ([(idx v4_2 v5)] : List UInt8)).map byteD)) ?_
      refine XK.nil (blN (nrm ?_))
      refine rG ?_
      refine xm 24 (pI v5) ?_
      obtain ⟨c_12, h⟩ := gG h
      refine xs 25 rfl (sf_sub (a := v5) (b := (1 : Int)) rfl rfl rfl c_12 ?_)
      refine xz 5 (pI (v5 - (1 : Int))) ?_
      exact ⟨k_8, by omega, ⟨tab [(3, .own 0 ((v3_4 ++ ([(idx v4_2 v5)] : List UInt8)).map byteD)), (4, pS v4_2), (5, pI (v5 - (1 : Int)))], tabH [.spare 1 (v3_4 ++ ([(idx v4_2 v5)] : List UInt8)).length], 1, []⟩, View.mk 1 [1] _ _ _ rfl rfl (by decide) (iC (iC (iC trivial))) (And.intro rfl trivial) rfl zL rfl, (v3_4 ++ ([(idx v4_2 v5)] : List UInt8)), v4_2, (v5 - (1 : Int)), by omega, jG h, rfl⟩
    · replace h := bGF h hb_9
      refine QW.exit zL (thX (thX (exE (nrm ?_))))
      refine sR ?_
      refine xm 32 (.own 0 (v3_4.map byteD)) ?_
      refine xs 33 rfl (sf_b2s (l := v3_4) rfl TT.under_78 TT.under_5 TT.under_9 rfl ?_)
      refine xz 2 (pS v3_4) ?_
      refine QW.ret zL ?_
      obtain rfl := sG h
      exact Ends.one (.inr rfl) rfl (ResIs.tmp rfl) rfl rfl
noncomputable def g_sum_word (s0 : (List UInt8)) : Option (BitVec 32) :=
    gO (0 ≤ (0 : Int) ∧ (0 : Int) < (s0.length : Int)) (
    gO (0 ≤ (1 : Int) ∧ (1 : Int) < (s0.length : Int)) (
    gO (0 ≤ (2 : Int) ∧ (2 : Int) < (s0.length : Int)) (
    gO (0 ≤ (3 : Int) ∧ (3 : Int) < (s0.length : Int)) (
    some ((((wshl (BitVec.ofInt 32 ((idx s0 (0 : Int)).toNat : Int)) (24 : Int)) ||| (wshl (BitVec.ofInt 32 ((idx s0 (1 : Int)).toNat : Int)) (16 : Int))) ||| (wshl (BitVec.ofInt 32 ((idx s0 (2 : Int)).toNat : Int)) (8 : Int))) ||| (BitVec.ofInt 32 ((idx s0 (3 : Int)).toNat : Int)))))))
theorem sim_sum_word (s0 : (List UInt8)) (r : (BitVec 32)) (h : g_sum_word s0 = some r) : Fun Try.prog 67 [.val (sV s0)] (.val (.int .u32 (r.toNat : Int))) := by
  refine Fun.of_bodyQ Try.func67 rfl (by simp [Try.ntmps67]) ?_
  rw [Try.ntmps67, TT.res_67]
  refine QW.view (s' := ⟨tab [(0, pS s0)], tabH [], 0, []⟩) (View.init (by rfl)) zL ?_
  unfold g_sum_word at h
  refine sR ?_
  refine xz 2 (.d (.val (.int .u32 ((0 : BitVec 32).toNat : Int)))) ?_
  refine QW.seq ?_
  refine QW.region zL (PW.regQ (id := 1) mixedX (M := _) rfl (by kernel_rfl) ?_)
  refine RQ.st (some 3) rfl rfl (sf_move (v := pS s0) rfl rfl ⟨⟨rfl, rfl⟩, ?_⟩)
  obtain ⟨c_1, h⟩ := gO_get h
  refine RQ.st (some 4) rfl rfl (sf_idxS (l := s0) (i := (0 : Int)) rfl TT.under_9 TT.arrA_9 rfl rfl c_1 ⟨⟨rfl, rfl⟩, ?_⟩)
  refine RQ.st (some 5) rfl rfl (sf_toW (n := ((idx s0 (0 : Int)).toNat : Int)) rfl TT.under_5 TT.under_65 rfl ⟨⟨rfl, rfl⟩, ?_⟩)
  refine RQ.st (some 6) rfl rfl (sf_wshl' (a := (BitVec.ofInt 32 ((idx s0 (0 : Int)).toNat : Int))) (c := (24 : Int)) rfl rfl rfl (by decide) ⟨⟨rfl, rfl⟩, ?_⟩)
  refine RQ.st (some 7) rfl rfl (sf_move (v := pS s0) rfl rfl ⟨⟨rfl, rfl⟩, ?_⟩)
  obtain ⟨c_2, h⟩ := gO_get h
  refine RQ.st (some 8) rfl rfl (sf_idxS (l := s0) (i := (1 : Int)) rfl TT.under_9 TT.arrA_9 rfl rfl c_2 ⟨⟨rfl, rfl⟩, ?_⟩)
  refine RQ.st (some 9) rfl rfl (sf_toW (n := ((idx s0 (1 : Int)).toNat : Int)) rfl TT.under_5 TT.under_65 rfl ⟨⟨rfl, rfl⟩, ?_⟩)
  refine RQ.st (some 10) rfl rfl (sf_wshl' (a := (BitVec.ofInt 32 ((idx s0 (1 : Int)).toNat : Int))) (c := (16 : Int)) rfl rfl rfl (by decide) ⟨⟨rfl, rfl⟩, ?_⟩)
  refine RQ.st (some 11) rfl rfl (sf_wor' (a := (wshl (BitVec.ofInt 32 ((idx s0 (0 : Int)).toNat : Int)) (24 : Int))) (b := (wshl (BitVec.ofInt 32 ((idx s0 (1 : Int)).toNat : Int)) (16 : Int))) rfl rfl rfl ⟨⟨rfl, rfl⟩, ?_⟩)
  refine RQ.st (some 12) rfl rfl (sf_move (v := pS s0) rfl rfl ⟨⟨rfl, rfl⟩, ?_⟩)
  obtain ⟨c_3, h⟩ := gO_get h
  refine RQ.st (some 13) rfl rfl (sf_idxS (l := s0) (i := (2 : Int)) rfl TT.under_9 TT.arrA_9 rfl rfl c_3 ⟨⟨rfl, rfl⟩, ?_⟩)
  refine RQ.st (some 14) rfl rfl (sf_toW (n := ((idx s0 (2 : Int)).toNat : Int)) rfl TT.under_5 TT.under_65 rfl ⟨⟨rfl, rfl⟩, ?_⟩)
  refine RQ.st (some 15) rfl rfl (sf_wshl' (a := (BitVec.ofInt 32 ((idx s0 (2 : Int)).toNat : Int))) (c := (8 : Int)) rfl rfl rfl (by decide) ⟨⟨rfl, rfl⟩, ?_⟩)
  refine RQ.st (some 16) rfl rfl (sf_wor' (a := ((wshl (BitVec.ofInt 32 ((idx s0 (0 : Int)).toNat : Int)) (24 : Int)) ||| (wshl (BitVec.ofInt 32 ((idx s0 (1 : Int)).toNat : Int)) (16 : Int)))) (b := (wshl (BitVec.ofInt 32 ((idx s0 (2 : Int)).toNat : Int)) (8 : Int))) rfl rfl rfl ⟨⟨rfl, rfl⟩, ?_⟩)
  refine RQ.st (some 17) rfl rfl (sf_move (v := pS s0) rfl rfl ⟨⟨rfl, rfl⟩, ?_⟩)
  obtain ⟨c_4, h⟩ := gO_get h
  refine RQ.st (some 18) rfl rfl (sf_idxS (l := s0) (i := (3 : Int)) rfl TT.under_9 TT.arrA_9 rfl rfl c_4 ⟨⟨rfl, rfl⟩, ?_⟩)
  refine RQ.st (some 19) rfl rfl (sf_toW (n := ((idx s0 (3 : Int)).toNat : Int)) rfl TT.under_5 TT.under_65 rfl ⟨⟨rfl, rfl⟩, ?_⟩)
  refine RQ.st (some 20) rfl rfl (sf_wor' (a := (((wshl (BitVec.ofInt 32 ((idx s0 (0 : Int)).toNat : Int)) (24 : Int)) ||| (wshl (BitVec.ofInt 32 ((idx s0 (1 : Int)).toNat : Int)) (16 : Int))) ||| (wshl (BitVec.ofInt 32 ((idx s0 (2 : Int)).toNat : Int)) (8 : Int)))) (b := (BitVec.ofInt 32 ((idx s0 (3 : Int)).toNat : Int))) rfl rfl rfl ⟨⟨rfl, rfl⟩, ?_⟩)
  refine RQ.st (some 2) rfl rfl (sf_assign (v := .d (.val (.int .u32 (((((wshl (BitVec.ofInt 32 ((idx s0 (0 : Int)).toNat : Int)) (24 : Int)) ||| (wshl (BitVec.ofInt 32 ((idx s0 (1 : Int)).toNat : Int)) (16 : Int))) ||| (wshl (BitVec.ofInt 32 ((idx s0 (2 : Int)).toNat : Int)) (8 : Int))) ||| (BitVec.ofInt 32 ((idx s0 (3 : Int)).toNat : Int))).toNat : Int)))) rfl rfl ⟨⟨rfl, rfl⟩, ?_⟩)
  refine RQ.nil (nrm ?_)
  refine QW.ret zL ?_
  obtain rfl := sO h
  exact Ends.one (.inr rfl) rfl (ResIs.tmp rfl) rfl rfl
noncomputable def g_math_bits_RotateLeft32 (x0 : (BitVec 32)) (k1 : Int) : Option (BitVec 32) :=
    gO (0 ≤ (((BitVec.ofInt 64 k1) &&& (31 : BitVec 64)).toNat : Int)) (
    gO (0 ≤ (((32 : BitVec 64) - ((BitVec.ofInt 64 k1) &&& (31 : BitVec 64))).toNat : Int)) (
    some ((wshl x0 (((BitVec.ofInt 64 k1) &&& (31 : BitVec 64)).toNat : Int)) ||| (wshr x0 (((32 : BitVec 64) - ((BitVec.ofInt 64 k1) &&& (31 : BitVec 64))).toNat : Int)))))
theorem sim_math_bits_RotateLeft32 (x0 : (BitVec 32)) (k1 : Int) (r : (BitVec 32)) (h : g_math_bits_RotateLeft32 x0 k1 = some r) : Fun Try.prog 69 [.val (.int .u32 (x0.toNat : Int)), .val (.int .i64 k1)] (.val (.int .u32 (r.toNat : Int))) := by
  refine Fun.of_bodyQ Try.func69 rfl (by simp [Try.ntmps69]) ?_
  rw [Try.ntmps69, TT.res_69]
  refine QW.view (s' := ⟨tab [(0, .d (.val (.int .u32 (x0.toNat : Int)))), (1, pI k1)], tabH [], 0, []⟩) (View.init (by rfl)) zL ?_
  unfold g_math_bits_RotateLeft32 at h
  refine sR ?_
  refine xz 4 (.d (.val (.int .u32 ((0 : BitVec 32).toNat : Int)))) ?_
  refine sR ?_
  refine xm 6 (pI k1) ?_
  refine xs 7 rfl (sf_toW (n := k1) rfl TT.under_3 TT.under_107 rfl ?_)
  refine xs 8 rfl (sf_wand' (a := (BitVec.ofInt 64 k1)) (b := (31 : BitVec 64)) rfl rfl rfl ?_)
  refine xz 5 (.d (.val (.int .u64 (((BitVec.ofInt 64 k1) &&& (31 : BitVec 64)).toNat : Int)))) ?_
  refine sR ?_
  refine xm 9 (.d (.val (.int .u32 (x0.toNat : Int)))) ?_
  refine xm 10 (.d (.val (.int .u64 (((BitVec.ofInt 64 k1) &&& (31 : BitVec 64)).toNat : Int)))) ?_
  obtain ⟨c_1, h⟩ := gO_get h
  refine xs 11 rfl (sf_wshl' (a := x0) (c := (((BitVec.ofInt 64 k1) &&& (31 : BitVec 64)).toNat : Int)) rfl rfl rfl c_1 ?_)
  refine xm 12 (.d (.val (.int .u32 (x0.toNat : Int)))) ?_
  refine xm 13 (.d (.val (.int .u64 (((BitVec.ofInt 64 k1) &&& (31 : BitVec 64)).toNat : Int)))) ?_
  refine xs 14 rfl (sf_wsub' (a := (32 : BitVec 64)) (b := ((BitVec.ofInt 64 k1) &&& (31 : BitVec 64))) rfl rfl rfl ?_)
  obtain ⟨c_2, h⟩ := gO_get h
  refine xs 15 rfl (sf_wshr' (a := x0) (c := (((32 : BitVec 64) - ((BitVec.ofInt 64 k1) &&& (31 : BitVec 64))).toNat : Int)) rfl rfl rfl c_2 ?_)
  refine xs 16 rfl (sf_wor' (a := (wshl x0 (((BitVec.ofInt 64 k1) &&& (31 : BitVec 64)).toNat : Int))) (b := (wshr x0 (((32 : BitVec 64) - ((BitVec.ofInt 64 k1) &&& (31 : BitVec 64))).toNat : Int))) rfl rfl rfl ?_)
  refine xz 4 (.d (.val (.int .u32 (((wshl x0 (((BitVec.ofInt 64 k1) &&& (31 : BitVec 64)).toNat : Int)) ||| (wshr x0 (((32 : BitVec 64) - ((BitVec.ofInt 64 k1) &&& (31 : BitVec 64))).toNat : Int))).toNat : Int)))) ?_
  refine QW.ret zL ?_
  obtain rfl := sO h
  exact Ends.one (.inr rfl) rfl (ResIs.tmp rfl) rfl rfl
noncomputable def g_sum_mix_1 (n0 : Int) (v1 : (BitVec 32)) : Option (BitVec 32) :=
    gO (inI (0 - n0)) (
    ((g_math_bits_RotateLeft32 v1 (0 - n0)).bind fun (x_2 : (BitVec 32)) =>
    some x_2))
theorem sim_sum_mix_1 (n0 : Int) (v1 : (BitVec 32)) (r : (BitVec 32)) (h : g_sum_mix_1 n0 v1 = some r) : Fun Try.prog 68 [.val (.int .i64 n0), .cptr ([.val (.int .u32 (v1.toNat : Int))])] (.val (.int .u32 (r.toNat : Int))) := by
  refine Fun.of_bodyQ Try.func68 rfl (by simp [Try.ntmps68]) ?_
  rw [Try.ntmps68, TT.res_68]
  refine QW.view (s' := ⟨tab [(0, pI n0), (1, .d (.cptr ([.val (.int .u32 (v1.toNat : Int))])))], tabH [], 0, []⟩) (View.init (by rfl)) zL ?_
  unfold g_sum_mix_1 at h
  refine sR ?_
  refine xz 3 (.d (.val (.int .u32 ((0 : BitVec 32).toNat : Int)))) ?_
  refine sR ?_
  refine xs 4 rfl (sf_ldC (d := .val (.int .u32 (v1.toNat : Int))) rfl TT.tyA_65 rfl (LdC.one) ?_)
  refine xm 5 (pI n0) ?_
  obtain ⟨c_1, h⟩ := gO_get h
  refine xs 6 rfl (sf_neg (a := n0) rfl rfl c_1 ?_)
  obtain ⟨x_2, hx_3, h⟩ := bO h
  refine xs 7 rfl (sf_call rfl rfl TT.enters_69 rfl (sim_math_bits_RotateLeft32 v1 (0 - n0) _ hx_3) ?_)
  refine xz 3 (.d (.val (.int .u32 (x_2.toNat : Int)))) ?_
  refine QW.ret zL ?_
  obtain rfl := sO h
  exact Ends.one (.inr rfl) rfl (ResIs.tmp rfl) rfl rfl
noncomputable def g_sum_mix (x0 : (BitVec 32)) (a1 : Int) (b2 : Int) (c3 : Int) (shift4 : Bool) : Option (BitVec 32) :=
    (bif shift4 then
    ((g_sum_mix_1 a1 x0).bind fun (x_2 : (BitVec 32)) =>
    ((g_sum_mix_1 b2 x0).bind fun (x_4 : (BitVec 32)) =>
    gO (0 ≤ c3) (
    some ((x_2 ^^^ x_4) ^^^ (wshr x0 c3)))))
    else
    ((g_sum_mix_1 a1 x0).bind fun (x_7 : (BitVec 32)) =>
    ((g_sum_mix_1 b2 x0).bind fun (x_9 : (BitVec 32)) =>
    ((g_sum_mix_1 c3 x0).bind fun (x_11 : (BitVec 32)) =>
    some ((x_7 ^^^ x_9) ^^^ x_11)))))
theorem sim_sum_mix (x0 : (BitVec 32)) (a1 : Int) (b2 : Int) (c3 : Int) (shift4 : Bool) (r : (BitVec 32)) (h : g_sum_mix x0 a1 b2 c3 shift4 = some r) : Fun Try.prog 50 [.val (.int .u32 (x0.toNat : Int)), .val (.int .i64 a1), .val (.int .i64 b2), .val (.int .i64 c3), .val (.bool shift4)] (.val (.int .u32 (r.toNat : Int))) := by
  refine Fun.of_bodyQ Try.func50 rfl (by simp [Try.ntmps50]) ?_
  rw [Try.ntmps50, TT.res_50]
  refine QW.view (s' := ⟨tab [(0, .d (.val (.int .u32 (x0.toNat : Int)))), (1, pI a1), (2, pI b2), (3, pI c3), (4, pB shift4)], tabH [], 0, []⟩) (View.init (by rfl)) zL ?_
  unfold g_sum_mix at h
  refine sR ?_
  refine XK.fz (some 5) rfl rfl (sf_boxF (ds := [.val (.int .u32 (x0.toNat : Int))]) rfl rfl rfl rfl rfl ?_)
  refine xz 10 (.d (.val (.int .u32 ((0 : BitVec 32).toNat : Int)))) ?_
  refine sR ?_
  refine xs 12 rfl (sf_func rfl rfl ?_)
  refine xz 11 (.d (.clo 68 [.cptr ([.val (.int .u32 (x0.toNat : Int))])])) ?_
  refine QW.seq ?_
  refine sR ?_
  refine xm 13 (pB shift4) ?_
  refine XK.nz ?_
  refine QW.cond (t := shift4) rfl zL (fun hb_1 => ?_) (fun hb_1 => ?_)
  · replace h := bT h hb_1
    refine QW.seq ?_
    refine QW.region zL (PW.regQ (id := 3) mixedX (M := _) rfl (by kernel_rfl) ?_)
    refine RQ.st (some 14) rfl rfl (sf_move (v := .d (.clo 68 [.cptr ([.val (.int .u32 (x0.toNat : Int))])])) rfl rfl ⟨⟨rfl, rfl⟩, ?_⟩)
    refine RQ.st (some 15) rfl rfl (sf_move (v := pI a1) rfl rfl ⟨⟨rfl, rfl⟩, ?_⟩)
    obtain ⟨x_2, hx_3, h⟩ := bO h
    refine RQ.st (some 16) rfl rfl (sf_clo rfl rfl rfl TT.enters_68 rfl (sim_sum_mix_1 a1 x0 _ hx_3) ⟨⟨rfl, rfl⟩, ?_⟩)
    refine RQ.st (some 17) rfl rfl (sf_move (v := .d (.clo 68 [.cptr ([.val (.int .u32 (x0.toNat : Int))])])) rfl rfl ⟨⟨rfl, rfl⟩, ?_⟩)
    refine RQ.st (some 18) rfl rfl (sf_move (v := pI b2) rfl rfl ⟨⟨rfl, rfl⟩, ?_⟩)
    obtain ⟨x_4, hx_5, h⟩ := bO h
    refine RQ.st (some 19) rfl rfl (sf_clo rfl rfl rfl TT.enters_68 rfl (sim_sum_mix_1 b2 x0 _ hx_5) ⟨⟨rfl, rfl⟩, ?_⟩)
    refine RQ.st (some 20) rfl rfl (sf_wxor' (a := x_2) (b := x_4) rfl rfl rfl ⟨⟨rfl, rfl⟩, ?_⟩)
    refine RQ.st (some 21) rfl rfl (sf_ldC (d := .val (.int .u32 (x0.toNat : Int))) rfl TT.tyA_65 rfl (LdC.one) ⟨⟨rfl, rfl⟩, ?_⟩)
    refine RQ.st (some 22) rfl rfl (sf_move (v := pI c3) rfl rfl ⟨⟨rfl, rfl⟩, ?_⟩)
    obtain ⟨c_6, h⟩ := gO_get h
    refine RQ.st (some 23) rfl rfl (sf_wshr' (a := x0) (c := c3) rfl rfl rfl c_6 ⟨⟨rfl, rfl⟩, ?_⟩)
    refine RQ.st (some 24) rfl rfl (sf_wxor' (a := (x_2 ^^^ x_4)) (b := (wshr x0 c3)) rfl rfl rfl ⟨⟨rfl, rfl⟩, ?_⟩)
    refine RQ.st (some 10) rfl rfl (sf_assign (v := .d (.val (.int .u32 (((x_2 ^^^ x_4) ^^^ (wshr x0 c3)).toNat : Int)))) rfl rfl ⟨⟨rfl, rfl⟩, ?_⟩)
    refine RQ.nil (nrm ?_)
    refine QW.ret zL (thR ?_)
    obtain rfl := sO h
    exact Ends.one (.inr rfl) rfl (ResIs.tmp rfl) rfl rfl
  · replace h := bF h hb_1
    refine QW.skip zL (nrm ?_)
    refine sR ?_
    refine xm 25 (.d (.clo 68 [.cptr ([.val (.int .u32 (x0.toNat : Int))])])) ?_
    refine xm 26 (pI a1) ?_
    obtain ⟨x_7, hx_8, h⟩ := bO h
    refine xs 27 rfl (sf_clo rfl rfl rfl TT.enters_68 rfl (sim_sum_mix_1 a1 x0 _ hx_8) ?_)
    refine xm 28 (.d (.clo 68 [.cptr ([.val (.int .u32 (x0.toNat : Int))])])) ?_
    refine xm 29 (pI b2) ?_
    obtain ⟨x_9, hx_10, h⟩ := bO h
    refine xs 30 rfl (sf_clo rfl rfl rfl TT.enters_68 rfl (sim_sum_mix_1 b2 x0 _ hx_10) ?_)
    refine xs 31 rfl (sf_wxor' (a := x_7) (b := x_9) rfl rfl rfl ?_)
    refine xm 32 (.d (.clo 68 [.cptr ([.val (.int .u32 (x0.toNat : Int))])])) ?_
    refine xm 33 (pI c3) ?_
    obtain ⟨x_11, hx_12, h⟩ := bO h
    refine xs 34 rfl (sf_clo rfl rfl rfl TT.enters_68 rfl (sim_sum_mix_1 c3 x0 _ hx_12) ?_)
    refine xs 35 rfl (sf_wxor' (a := (x_7 ^^^ x_9)) (b := x_11) rfl rfl rfl ?_)
    refine xz 10 (.d (.val (.int .u32 (((x_7 ^^^ x_9) ^^^ x_11).toNat : Int)))) ?_
    refine QW.ret zL ?_
    obtain rfl := sO h
    exact Ends.one (.inr rfl) rfl (ResIs.tmp rfl) rfl rfl
inductive C_sum_words where
  | S
  | L1 (v6 : Int) (v3 : (Arr 64 (BitVec 32)))
  | L2 (v5 : Int) (v3_4 : (Arr 64 (BitVec 32)))
noncomputable def step_sum_words (s0 : (List UInt8)) : C_sum_words → Option (C_sum_words ⊕ (Arr 64 (BitVec 32)))
  | .S =>
    some (.inl (.L1 (0) (Arr.rep 64 (0 : BitVec 32))))
  | .L1 v6 v3 =>
    (bif (decide (v6 < (16 : Int))) then
    gO (inI ((4 : Int) * v6)) (
    gO (0 ≤ ((4 : Int) * v6) ∧ ((4 : Int) * v6) ≤ (s0.length : Int) ∧ (s0.length : Int) ≤ (s0.length : Int)) (
    ((g_sum_word (sub s0 ((4 : Int) * v6) (s0.length : Int))).bind fun (x_5 : (BitVec 32)) =>
    gO (0 ≤ v6 ∧ v6 < ((64 : Nat) : Int)) (
    gO (inI (v6 + (1 : Int))) (
    some (.inl (.L1 (v6 + (1 : Int)) (v3.put v6 x_5))))))))
    else
    some (.inl (.L2 (16) v3)))
  | .L2 v5 v3_4 =>
    (bif (decide (v5 < (64 : Int))) then
    gO (inI (v5 - (16 : Int))) (
    gO (0 ≤ (v5 - (16 : Int)) ∧ (v5 - (16 : Int)) < ((64 : Nat) : Int)) (
    gO (inI (v5 - (15 : Int))) (
    gO (0 ≤ (v5 - (15 : Int)) ∧ (v5 - (15 : Int)) < ((64 : Nat) : Int)) (
    ((g_sum_mix (idx v3_4.1 (v5 - (15 : Int))) (7) (18) (3) true).bind fun (x_15 : (BitVec 32)) =>
    gO (inI (v5 - (7 : Int))) (
    gO (0 ≤ (v5 - (7 : Int)) ∧ (v5 - (7 : Int)) < ((64 : Nat) : Int)) (
    gO (inI (v5 - (2 : Int))) (
    gO (0 ≤ (v5 - (2 : Int)) ∧ (v5 - (2 : Int)) < ((64 : Nat) : Int)) (
    ((g_sum_mix (idx v3_4.1 (v5 - (2 : Int))) (17) (19) (10) true).bind fun (x_21 : (BitVec 32)) =>
    gO (0 ≤ v5 ∧ v5 < ((64 : Nat) : Int)) (
    gO (inI (v5 + (1 : Int))) (
    some (.inl (.L2 (v5 + (1 : Int)) (v3_4.put v5 ((((idx v3_4.1 (v5 - (16 : Int))) + x_15) + (idx v3_4.1 (v5 - (7 : Int)))) + x_21))))))))))))))))
    else
    some (.inr v3_4))
noncomputable def g_sum_words (s0 : (List UInt8)) : Option (Arr 64 (BitVec 32)) := theC (step_sum_words s0) .S
theorem sim_sum_words (s0 : (List UInt8)) (r : (Arr 64 (BitVec 32))) (h : g_sum_words s0 = some r) : Fun Try.prog 48 [.val (sV s0)] (.agg (r.1.map e32)) := by
  refine Fun.of_bodyQ Try.func48 rfl (by simp [Try.ntmps48]) ?_
  rw [Try.ntmps48, TT.res_48]
  refine QW.view (s' := ⟨tab [(0, pS s0)], tabH [], 0, []⟩) (View.init (by rfl)) zL ?_
  replace h := theC_get h
  obtain ⟨_, h⟩ := h
  obtain ⟨k_0, rfl, h9⟩ := run_succ h; replace h := h9; clear h9; rw [step_sum_words] at h
  refine sR ?_
  refine xs 2 rfl (sf_alloc (l := (((Arr.rep 64 (0 : BitVec 32)).1.map e32).map .d)) rfl TT.zeroA_95 rfl rfl ?_)
  refine XK.nz ?_
  refine sR ?_
  refine xs 3 rfl (sf_alloc (l := (((Arr.rep 64 (0 : BitVec 32)).1.map e32).map .d)) rfl TT.zeroA_95 rfl rfl ?_)
  refine XK.nz ?_
  refine QW.seq ?_
  refine sR ?_
  refine xm 6 (pI (0)) ?_
  refine XK.nz ?_
  refine QW.block ?_
  refine QW.loop (fun k σ => ∃ v6 : Int, ∃ v3 : (Arr 64 (BitVec 32)), k ≤ k_0 ∧ run (step_sum_words s0) k (.L1 v6 v3) = some r ∧ σ = ⟨tab [(0, pS s0), (2, .vptr 0 0), (3, .vptr 1 0), (6, pI v6)], tabH [.var (((Arr.rep 64 (0 : BitVec 32)).1.map e32).map .d), .var ((v3.1.map e32).map .d)], 2, []⟩) k_0 zL ⟨⟨tab [(0, pS s0), (2, .vptr 0 0), (3, .vptr 1 0), (6, pI (0))], tabH [.var (((Arr.rep 64 (0 : BitVec 32)).1.map e32).map .d), .var (((Arr.rep 64 (0 : BitVec 32)).1.map e32).map .d)], 2, []⟩, View.mk 2 [0, 1] _ _ _ rfl rfl (by decide) (iC (iC (iC (iC trivial)))) (And.intro (by simp only [atH1, rowC, PV.res_d]; rfl) (And.intro (by simp only [atH1, rowC, PV.res_d]; rfl) trivial)) rfl zL rfl, 0, (Arr.rep 64 (0 : BitVec 32)), Nat.le_refl _, jG h, rfl⟩ ?_
  rintro k_1s _ ⟨v6, v3, k_1h, h, rfl⟩
  obtain ⟨k_1, rfl, h9⟩ := run_succ h; replace h := h9; clear h9; rw [step_sum_words] at h
  refine sR ?_
  refine xs 7 rfl (sf_lss (a := v6) (b := (16 : Int)) rfl rfl rfl ?_)
  refine XK.nz ?_
  refine QW.seq ?_
  refine QW.cond (t := (decide (v6 < (16 : Int)))) rfl zL (fun hb_2 => ?_) (fun hb_2 => ?_)
  · replace h := bGT h hb_2
    refine QW.skip zL (nrm ?_)
    refine QW.seq ?_
    refine QW.block ?_
    refine sR ?_
    refine xm 8 (pI v6) ?_
    refine xz 4 (pI v6) ?_
    refine rG ?_
    refine xm 9 (pI v6) ?_
    refine xm 10 (pS s0) ?_
    refine xm 11 (pI v6) ?_
    obtain ⟨c_3, h⟩ := gG h
    refine xs 12 rfl (sf_mul (a := (4 : Int)) (b := v6) rfl rfl rfl c_3 ?_)
    obtain ⟨c_4, h⟩ := gG h
    refine xs 13 rfl (sf_subS (l := s0) (a := ((4 : Int) * v6)) (b := (s0.length : Int)) rfl TT.under_9 rfl rfl rfl c_4 ?_)
    obtain ⟨x_5, hx_6, h⟩ := bG h
    refine xs 14 rfl (sf_call rfl rfl TT.enters_67 rfl (sim_sum_word (sub s0 ((4 : Int) * v6) (s0.length : Int)) _ hx_6) ?_)
    obtain ⟨c_7, h⟩ := gG h
    refine xs 15 rfl (sf_idxV (i := v6) rfl TT.slcA_95 TT.arrA_95 rfl rfl c_7 ?_)
    refine XK.st none rfl rfl (sf_stV (l' := (((v3.put v6 x_5).1.map e32).map .d)) rfl TT.tyA_65 rfl rfl rfl rfl rfl rfl (len_arr c_7) (spl_arr c_7) ?_)
    refine XK.nil (blN (nrm ?_))
    refine rG ?_
    obtain ⟨c_8, h⟩ := gG h
    refine xs 16 rfl (sf_add (a := v6) (b := (1 : Int)) rfl rfl rfl c_8 ?_)
    refine xm 6 (pI (v6 + (1 : Int))) ?_
    refine XK.nz ?_
    exact ⟨k_1, by omega, ⟨tab [(0, pS s0), (2, .vptr 0 0), (3, .vptr 1 0), (6, pI (v6 + (1 : Int)))], tabH [.var (((Arr.rep 64 (0 : BitVec 32)).1.map e32).map .d), .var (((v3.put v6 x_5).1.map e32).map .d)], 2, []⟩, View.mk 2 [0, 1] _ _ _ rfl rfl (by decide) (iC (iC (iC (iC trivial)))) (And.intro (by simp only [atH1, rowC, PV.res_d]; rfl) (And.intro (by simp only [atH1, rowC, PV.res_d]; rfl) trivial)) rfl zL rfl, (v6 + (1 : Int)), (v3.put v6 x_5), by omega, jG h, rfl⟩
  · replace h := bGF h hb_2
    refine QW.exit zL (thX (thX (exE (nrm ?_))))
    refine QW.seq ?_
    refine sR ?_
    refine xz 5 (pI (16)) ?_
    refine QW.block ?_
    refine QW.loop (fun k σ => ∃ v5 : Int, ∃ v3_4 : (Arr 64 (BitVec 32)), k ≤ k_1 ∧ run (step_sum_words s0) k (.L2 v5 v3_4) = some r ∧ σ = ⟨tab [(2, .vptr 0 0), (3, .vptr 1 0), (5, pI v5)], tabH [.var (((Arr.rep 64 (0 : BitVec 32)).1.map e32).map .d), .var ((v3_4.1.map e32).map .d)], 2, []⟩) k_1 zL ⟨⟨tab [(2, .vptr 0 0), (3, .vptr 1 0), (5, pI (16))], tabH [.var (((Arr.rep 64 (0 : BitVec 32)).1.map e32).map .d), .var ((v3.1.map e32).map .d)], 2, []⟩, View.mk 2 [0, 1] _ _ _ rfl rfl (by decide) (iC (iC (iC trivial))) (And.intro (by simp only [atH1, rowC, PV.res_d]; rfl) (And.intro (by simp only [atH1, rowC, PV.res_d]; rfl) trivial)) rfl zL rfl, 16, v3, Nat.le_refl _, jG h, rfl⟩ ?_
    rintro k_9s _ ⟨v5, v3_4, k_9h, h, rfl⟩
    obtain ⟨k_9, rfl, h9⟩ := run_succ h; replace h := h9; clear h9; rw [step_sum_words] at h
    refine QW.seq ?_
    refine sR ?_
    refine xm 17 (pI v5) ?_
    refine xs 18 rfl (sf_lss (a := v5) (b := (64 : Int)) rfl rfl rfl ?_)
    refine XK.nz ?_
    refine QW.cond (t := (decide (v5 < (64 : Int)))) rfl zL (fun hb_10 => ?_) (fun hb_10 => ?_)
    · replace h := bGT h hb_10
      refine QW.skip zL (nrm ?_)
      refine QW.seq ?_
      refine QW.block ?_
      refine QW.region zL (PW.regK (id := 10) mixedX (M := _) rfl (by kernel_rfl) ?_)
      refine RK.st (some 21) rfl rfl (sf_move (v := pI v5) rfl rfl ?_)
      refine RK.st (some 22) rfl rfl (sf_move (v := pI v5) rfl rfl ?_)
      obtain ⟨c_11, h⟩ := gG h
      refine RK.st (some 23) rfl rfl (sf_sub (a := v5) (b := (16 : Int)) rfl rfl rfl c_11 ?_)
      obtain ⟨c_12, h⟩ := gG h
      refine RK.st (some 24) rfl rfl (sf_idxV (i := (v5 - (16 : Int))) rfl TT.slcA_95 TT.arrA_95 rfl rfl c_12 ?_)
      refine RK.st (some 25) rfl rfl (sf_ldV (v := .d (.val (.int .u32 ((idx v3_4.1 (v5 - (16 : Int))).toNat : Int)))) rfl TT.tyA_65 rfl rfl (ldv_arr c_12) ?_)
      refine RK.st (some 26) rfl rfl (sf_move (v := pI v5) rfl rfl ?_)
      obtain ⟨c_13, h⟩ := gG h
      refine RK.st (some 27) rfl rfl (sf_sub (a := v5) (b := (15 : Int)) rfl rfl rfl c_13 ?_)
      obtain ⟨c_14, h⟩ := gG h
      refine RK.st (some 28) rfl rfl (sf_idxV (i := (v5 - (15 : Int))) rfl TT.slcA_95 TT.arrA_95 rfl rfl c_14 ?_)
      refine RK.st (some 29) rfl rfl (sf_ldV (v := .d (.val (.int .u32 ((idx v3_4.1 (v5 - (15 : Int))).toNat : Int)))) rfl TT.tyA_65 rfl rfl (ldv_arr c_14) ?_)
      obtain ⟨x_15, hx_16, h⟩ := bG h
      refine RK.st (some 30) rfl rfl (sf_call rfl rfl TT.enters_50 rfl (sim_sum_mix (idx v3_4.1 (v5 - (15 : Int))) (7) (18) (3) true _ hx_16) ?_)
      refine RK.st (some 31) rfl rfl (sf_wadd' (a := (idx v3_4.1 (v5 - (16 : Int)))) (b := x_15) rfl rfl rfl ?_)
      refine RK.st (some 32) rfl rfl (sf_move (v := pI v5) rfl rfl ?_)
      obtain ⟨c_17, h⟩ := gG h
      refine RK.st (some 33) rfl rfl (sf_sub (a := v5) (b := (7 : Int)) rfl rfl rfl c_17 ?_)
      obtain ⟨c_18, h⟩ := gG h
      refine RK.st (some 34) rfl rfl (sf_idxV (i := (v5 - (7 : Int))) rfl TT.slcA_95 TT.arrA_95 rfl rfl c_18 ?_)
      refine RK.st (some 35) rfl rfl (sf_ldV (v := .d (.val (.int .u32 ((idx v3_4.1 (v5 - (7 : Int))).toNat : Int)))) rfl TT.tyA_65 rfl rfl (ldv_arr c_18) ?_)
      refine RK.st (some 36) rfl rfl (sf_wadd' (a := ((idx v3_4.1 (v5 - (16 : Int))) + x_15)) (b := (idx v3_4.1 (v5 - (7 : Int)))) rfl rfl rfl ?_)
      refine RK.st (some 37) rfl rfl (sf_move (v := pI v5) rfl rfl ?_)
      obtain ⟨c_19, h⟩ := gG h
      refine RK.st (some 38) rfl rfl (sf_sub (a := v5) (b := (2 : Int)) rfl rfl rfl c_19 ?_)
      obtain ⟨c_20, h⟩ := gG h
      refine RK.st (some 39) rfl rfl (sf_idxV (i := (v5 - (2 : Int))) rfl TT.slcA_95 TT.arrA_95 rfl rfl c_20 ?_)
      refine RK.st (some 40) rfl rfl (sf_ldV (v := .d (.val (.int .u32 ((idx v3_4.1 (v5 - (2 : Int))).toNat : Int)))) rfl TT.tyA_65 rfl rfl (ldv_arr c_20) ?_)
      obtain ⟨x_21, hx_22, h⟩ := bG h
      refine RK.st (some 41) rfl rfl (sf_call rfl rfl TT.enters_50 rfl (sim_sum_mix (idx v3_4.1 (v5 - (2 : Int))) (17) (19) (10) true _ hx_22) ?_)
      refine RK.st (some 42) rfl rfl (sf_wadd' (a := (((idx v3_4.1 (v5 - (16 : Int))) + x_15) + (idx v3_4.1 (v5 - (7 : Int))))) (b := x_21) rfl rfl rfl ?_)
      obtain ⟨c_23, h⟩ := gG h
      refine RK.st (some 43) rfl rfl (sf_idxV (i := v5) rfl TT.slcA_95 TT.arrA_95 rfl rfl c_23 ?_)
      refine RK.st none rfl rfl (sf_stV (l' := (((v3_4.put v5 ((((idx v3_4.1 (v5 - (16 : Int))) + x_15) + (idx v3_4.1 (v5 - (7 : Int)))) + x_21)).1.map e32).map .d)) rfl TT.tyA_65 rfl rfl rfl rfl rfl rfl (len_arr c_23) (spl_arr c_23) ?_)
      refine RK.nil ⟨RecsOK.comp (by rfl), (blN (nrm ?_))⟩
      refine QW.view (s' := ⟨tab [(2, .vptr 0 0), (3, .vptr 1 0), (5, pI v5)], tabH [.var (((Arr.rep 64 (0 : BitVec 32)).1.map e32).map .d), .var (((v3_4.put v5 ((((idx v3_4.1 (v5 - (16 : Int))) + x_15) + (idx v3_4.1 (v5 - (7 : Int)))) + x_21)).1.map e32).map .d)], 2, []⟩) (View.mk 2 [0, 1] _ _ _ rfl rfl (by decide) (iC (iC (iC trivial))) (And.intro (by simp only [atH1, rowC, PV.res_d]; rfl) (And.intro (by simp only [atH1, rowC, PV.res_d]; rfl) trivial)) rfl zL rfl) zL ?_
      refine rG ?_
      refine xm 19 (pI v5) ?_
      obtain ⟨c_24, h⟩ := gG h
      refine xs 20 rfl (sf_add (a := v5) (b := (1 : Int)) rfl rfl rfl c_24 ?_)
      refine xz 5 (pI (v5 + (1 : Int))) ?_
      exact ⟨k_9, by omega, ⟨tab [(2, .vptr 0 0), (3, .vptr 1 0), (5, pI (v5 + (1 : Int)))], tabH [.var (((Arr.rep 64 (0 : BitVec 32)).1.map e32).map .d), .var (((v3_4.put v5 ((((idx v3_4.1 (v5 - (16 : Int))) + x_15) + (idx v3_4.1 (v5 - (7 : Int)))) + x_21)).1.map e32).map .d)], 2, []⟩, View.mk 2 [0, 1] _ _ _ rfl rfl (by decide) (iC (iC (iC trivial))) (And.intro (by simp only [atH1, rowC, PV.res_d]; rfl) (And.intro (by simp only [atH1, rowC, PV.res_d]; rfl) trivial)) rfl zL rfl, (v5 + (1 : Int)), (v3_4.put v5 ((((idx v3_4.1 (v5 - (16 : Int))) + x_15) + (idx v3_4.1 (v5 - (7 : Int)))) + x_21)), by omega, jG h, rfl⟩
    · replace h := bGF h hb_10
      refine QW.exit zL (thX (thX (exE (nrm ?_))))
      refine sR ?_
      refine XK.as (some 44) rfl rfl (sf_ldV (v := .agg ((v3_4.1.map e32).map .d)) rfl TT.tyA_95 rfl rfl (ldv_all (by decide)) ⟨.d (.agg (v3_4.1.map e32)), imp_arr, ?_⟩)
      refine XK.st none rfl rfl (sf_stV (l' := ((v3_4.1.map e32).map .d)) rfl TT.tyA_95 rfl rfl rfl rfl rfl (len_map2 _) (le_map2 _) (spl_same ((len_map2 _).trans (len_map2 _).symm)) ?_)
      refine XK.nz ?_
      refine QW.ret zL ?_
      obtain rfl := sG h
      exact Ends.one (.inr rfl) rfl (ResIs.cell rfl rfl TT.tyA_95 (ldv_all (by decide))) (toD_agg toDs_map) rfl
noncomputable def g_sum_rounds  : Option (Arr 64 (BitVec 32)) :=
    some (⟨[(1116352408 : BitVec 32), (1899447441 : BitVec 32), (3049323471 : BitVec 32), (3921009573 : BitVec 32), (961987163 : BitVec 32), (1508970993 : BitVec 32), (2453635748 : BitVec 32), (2870763221 : BitVec 32), (3624381080 : BitVec 32), (310598401 : BitVec 32), (607225278 : BitVec 32), (1426881987 : BitVec 32), (1925078388 : BitVec 32), (2162078206 : BitVec 32), (2614888103 : BitVec 32), (3248222580 : BitVec 32), (3835390401 : BitVec 32), (4022224774 : BitVec 32), (264347078 : BitVec 32), (604807628 : BitVec 32), (770255983 : BitVec 32), (1249150122 : BitVec 32), (1555081692 : BitVec 32), (1996064986 : BitVec 32), (2554220882 : BitVec 32), (2821834349 : BitVec 32), (2952996808 : BitVec 32), (3210313671 : BitVec 32), (3336571891 : BitVec 32), (3584528711 : BitVec 32), (113926993 : BitVec 32), (338241895 : BitVec 32), (666307205 : BitVec 32), (773529912 : BitVec 32), (1294757372 : BitVec 32), (1396182291 : BitVec 32), (1695183700 : BitVec 32), (1986661051 : BitVec 32), (2177026350 : BitVec 32), (2456956037 : BitVec 32), (2730485921 : BitVec 32), (2820302411 : BitVec 32), (3259730800 : BitVec 32), (3345764771 : BitVec 32), (3516065817 : BitVec 32), (3600352804 : BitVec 32), (4094571909 : BitVec 32), (275423344 : BitVec 32), (430227734 : BitVec 32), (506948616 : BitVec 32), (659060556 : BitVec 32), (883997877 : BitVec 32), (958139571 : BitVec 32), (1322822218 : BitVec 32), (1537002063 : BitVec 32), (1747873779 : BitVec 32), (1955562222 : BitVec 32), (2024104815 : BitVec 32), (2227730452 : BitVec 32), (2361852424 : BitVec 32), (2428436474 : BitVec 32), (2756734187 : BitVec 32), (3204031479 : BitVec 32), (3329325298 : BitVec 32)], rfl⟩ : (Arr 64 (BitVec 32)))
theorem sim_sum_rounds  (r : (Arr 64 (BitVec 32))) (h : g_sum_rounds  = some r) : Fun Try.prog 49 [] (.agg (r.1.map e32)) := by
  refine Fun.of_bodyQ Try.func49 rfl (by simp [Try.ntmps49]) ?_
  rw [Try.ntmps49, TT.res_49]
  refine QW.view (s' := ⟨tab [], tabH [], 0, []⟩) (View.init (by rfl)) zL ?_
  unfold g_sum_rounds at h
  refine sR ?_
  refine xs 0 rfl (sf_alloc (l := (((Arr.rep 64 (0 : BitVec 32)).1.map e32).map .d)) rfl TT.zeroA_95 rfl rfl ?_)
  refine XK.nz ?_
  refine sR ?_
  refine XK.as (some 1) rfl rfl (sf_build (v := .agg [.d (.val (.int .u32 ((1116352408 : BitVec 32).toNat : Int))), .d (.val (.int .u32 ((1899447441 : BitVec 32).toNat : Int))), .d (.val (.int .u32 ((3049323471 : BitVec 32).toNat : Int))), .d (.val (.int .u32 ((3921009573 : BitVec 32).toNat : Int))), .d (.val (.int .u32 ((961987163 : BitVec 32).toNat : Int))), .d (.val (.int .u32 ((1508970993 : BitVec 32).toNat : Int))), .d (.val (.int .u32 ((2453635748 : BitVec 32).toNat : Int))), .d (.val (.int .u32 ((2870763221 : BitVec 32).toNat : Int))), .d (.val (.int .u32 ((3624381080 : BitVec 32).toNat : Int))), .d (.val (.int .u32 ((310598401 : BitVec 32).toNat : Int))), .d (.val (.int .u32 ((607225278 : BitVec 32).toNat : Int))), .d (.val (.int .u32 ((1426881987 : BitVec 32).toNat : Int))), .d (.val (.int .u32 ((1925078388 : BitVec 32).toNat : Int))), .d (.val (.int .u32 ((2162078206 : BitVec 32).toNat : Int))), .d (.val (.int .u32 ((2614888103 : BitVec 32).toNat : Int))), .d (.val (.int .u32 ((3248222580 : BitVec 32).toNat : Int))), .d (.val (.int .u32 ((3835390401 : BitVec 32).toNat : Int))), .d (.val (.int .u32 ((4022224774 : BitVec 32).toNat : Int))), .d (.val (.int .u32 ((264347078 : BitVec 32).toNat : Int))), .d (.val (.int .u32 ((604807628 : BitVec 32).toNat : Int))), .d (.val (.int .u32 ((770255983 : BitVec 32).toNat : Int))), .d (.val (.int .u32 ((1249150122 : BitVec 32).toNat : Int))), .d (.val (.int .u32 ((1555081692 : BitVec 32).toNat : Int))), .d (.val (.int .u32 ((1996064986 : BitVec 32).toNat : Int))), .d (.val (.int .u32 ((2554220882 : BitVec 32).toNat : Int))), .d (.val (.int .u32 ((2821834349 : BitVec 32).toNat : Int))), .d (.val (.int .u32 ((2952996808 : BitVec 32).toNat : Int))), .d (.val (.int .u32 ((3210313671 : BitVec 32).toNat : Int))), .d (.val (.int .u32 ((3336571891 : BitVec 32).toNat : Int))), .d (.val (.int .u32 ((3584528711 : BitVec 32).toNat : Int))), .d (.val (.int .u32 ((113926993 : BitVec 32).toNat : Int))), .d (.val (.int .u32 ((338241895 : BitVec 32).toNat : Int))), .d (.val (.int .u32 ((666307205 : BitVec 32).toNat : Int))), .d (.val (.int .u32 ((773529912 : BitVec 32).toNat : Int))), .d (.val (.int .u32 ((1294757372 : BitVec 32).toNat : Int))), .d (.val (.int .u32 ((1396182291 : BitVec 32).toNat : Int))), .d (.val (.int .u32 ((1695183700 : BitVec 32).toNat : Int))), .d (.val (.int .u32 ((1986661051 : BitVec 32).toNat : Int))), .d (.val (.int .u32 ((2177026350 : BitVec 32).toNat : Int))), .d (.val (.int .u32 ((2456956037 : BitVec 32).toNat : Int))), .d (.val (.int .u32 ((2730485921 : BitVec 32).toNat : Int))), .d (.val (.int .u32 ((2820302411 : BitVec 32).toNat : Int))), .d (.val (.int .u32 ((3259730800 : BitVec 32).toNat : Int))), .d (.val (.int .u32 ((3345764771 : BitVec 32).toNat : Int))), .d (.val (.int .u32 ((3516065817 : BitVec 32).toNat : Int))), .d (.val (.int .u32 ((3600352804 : BitVec 32).toNat : Int))), .d (.val (.int .u32 ((4094571909 : BitVec 32).toNat : Int))), .d (.val (.int .u32 ((275423344 : BitVec 32).toNat : Int))), .d (.val (.int .u32 ((430227734 : BitVec 32).toNat : Int))), .d (.val (.int .u32 ((506948616 : BitVec 32).toNat : Int))), .d (.val (.int .u32 ((659060556 : BitVec 32).toNat : Int))), .d (.val (.int .u32 ((883997877 : BitVec 32).toNat : Int))), .d (.val (.int .u32 ((958139571 : BitVec 32).toNat : Int))), .d (.val (.int .u32 ((1322822218 : BitVec 32).toNat : Int))), .d (.val (.int .u32 ((1537002063 : BitVec 32).toNat : Int))), .d (.val (.int .u32 ((1747873779 : BitVec 32).toNat : Int))), .d (.val (.int .u32 ((1955562222 : BitVec 32).toNat : Int))), .d (.val (.int .u32 ((2024104815 : BitVec 32).toNat : Int))), .d (.val (.int .u32 ((2227730452 : BitVec 32).toNat : Int))), .d (.val (.int .u32 ((2361852424 : BitVec 32).toNat : Int))), .d (.val (.int .u32 ((2428436474 : BitVec 32).toNat : Int))), .d (.val (.int .u32 ((2756734187 : BitVec 32).toNat : Int))), .d (.val (.int .u32 ((3204031479 : BitVec 32).toNat : Int))), .d (.val (.int .u32 ((3329325298 : BitVec 32).toNat : Int)))]) rfl (by rw [TT.bldA_95]; simp [buildP, fillP, placeOf, partsQ, evP, PV.solid, PV.cellsP, Value.oneCell', spl, cellV, ofVal, List.all, putS_at, tab, unS, unT, asCond, unC]) (by rw [TT.bldA_95]; rfl) ⟨.d (.agg ((⟨[(1116352408 : BitVec 32), (1899447441 : BitVec 32), (3049323471 : BitVec 32), (3921009573 : BitVec 32), (961987163 : BitVec 32), (1508970993 : BitVec 32), (2453635748 : BitVec 32), (2870763221 : BitVec 32), (3624381080 : BitVec 32), (310598401 : BitVec 32), (607225278 : BitVec 32), (1426881987 : BitVec 32), (1925078388 : BitVec 32), (2162078206 : BitVec 32), (2614888103 : BitVec 32), (3248222580 : BitVec 32), (3835390401 : BitVec 32), (4022224774 : BitVec 32), (264347078 : BitVec 32), (604807628 : BitVec 32), (770255983 : BitVec 32), (1249150122 : BitVec 32), (1555081692 : BitVec 32), (1996064986 : BitVec 32), (2554220882 : BitVec 32), (2821834349 : BitVec 32), (2952996808 : BitVec 32), (3210313671 : BitVec 32), (3336571891 : BitVec 32), (3584528711 : BitVec 32), (113926993 : BitVec 32), (338241895 : BitVec 32), (666307205 : BitVec 32), (773529912 : BitVec 32), (1294757372 : BitVec 32), (1396182291 : BitVec 32), (1695183700 : BitVec 32), (1986661051 : BitVec 32), (2177026350 : BitVec 32), (2456956037 : BitVec 32), (2730485921 : BitVec 32), (2820302411 : BitVec 32), (3259730800 : BitVec 32), (3345764771 : BitVec 32), (3516065817 : BitVec 32), (3600352804 : BitVec 32), (4094571909 : BitVec 32), (275423344 : BitVec 32), (430227734 : BitVec 32), (506948616 : BitVec 32), (659060556 : BitVec 32), (883997877 : BitVec 32), (958139571 : BitVec 32), (1322822218 : BitVec 32), (1537002063 : BitVec 32), (1747873779 : BitVec 32), (1955562222 : BitVec 32), (2024104815 : BitVec 32), (2227730452 : BitVec 32), (2361852424 : BitVec 32), (2428436474 : BitVec 32), (2756734187 : BitVec 32), (3204031479 : BitVec 32), (3329325298 : BitVec 32)], rfl⟩ : (Arr 64 (BitVec 32))).1.map e32)), (Imp.toD rfl), ?_⟩)
  refine XK.st none rfl rfl (sf_stV (l' := (((⟨[(1116352408 : BitVec 32), (1899447441 : BitVec 32), (3049323471 : BitVec 32), (3921009573 : BitVec 32), (961987163 : BitVec 32), (1508970993 : BitVec 32), (2453635748 : BitVec 32), (2870763221 : BitVec 32), (3624381080 : BitVec 32), (310598401 : BitVec 32), (607225278 : BitVec 32), (1426881987 : BitVec 32), (1925078388 : BitVec 32), (2162078206 : BitVec 32), (2614888103 : BitVec 32), (3248222580 : BitVec 32), (3835390401 : BitVec 32), (4022224774 : BitVec 32), (264347078 : BitVec 32), (604807628 : BitVec 32), (770255983 : BitVec 32), (1249150122 : BitVec 32), (1555081692 : BitVec 32), (1996064986 : BitVec 32), (2554220882 : BitVec 32), (2821834349 : BitVec 32), (2952996808 : BitVec 32), (3210313671 : BitVec 32), (3336571891 : BitVec 32), (3584528711 : BitVec 32), (113926993 : BitVec 32), (338241895 : BitVec 32), (666307205 : BitVec 32), (773529912 : BitVec 32), (1294757372 : BitVec 32), (1396182291 : BitVec 32), (1695183700 : BitVec 32), (1986661051 : BitVec 32), (2177026350 : BitVec 32), (2456956037 : BitVec 32), (2730485921 : BitVec 32), (2820302411 : BitVec 32), (3259730800 : BitVec 32), (3345764771 : BitVec 32), (3516065817 : BitVec 32), (3600352804 : BitVec 32), (4094571909 : BitVec 32), (275423344 : BitVec 32), (430227734 : BitVec 32), (506948616 : BitVec 32), (659060556 : BitVec 32), (883997877 : BitVec 32), (958139571 : BitVec 32), (1322822218 : BitVec 32), (1537002063 : BitVec 32), (1747873779 : BitVec 32), (1955562222 : BitVec 32), (2024104815 : BitVec 32), (2227730452 : BitVec 32), (2361852424 : BitVec 32), (2428436474 : BitVec 32), (2756734187 : BitVec 32), (3204031479 : BitVec 32), (3329325298 : BitVec 32)], rfl⟩ : (Arr 64 (BitVec 32))).1.map e32).map .d)) rfl TT.tyA_95 rfl rfl rfl rfl rfl (len_map2 _) (le_map2 _) (spl_same ((len_map2 _).trans (len_map2 _).symm)) ?_)
  refine XK.nz ?_
  refine QW.ret zL ?_
  obtain rfl := sO h
  exact Ends.one (.inr rfl) rfl (ResIs.cell rfl rfl TT.tyA_95 (ldv_all (by decide))) (toD_agg toDs_map) rfl
inductive C_sum_step where
  | S
  | L1 (v18 : Int) (v5_2 : (Arr 64 (BitVec 32))) (v6_2 : (Arr 64 (BitVec 32))) (v7 : (Arr 8 (BitVec 32)))
  | L2 (v92 : Int) (v2 : (Arr 8 (BitVec 32))) (v7_4 : (Arr 8 (BitVec 32)))
noncomputable def step_sum_step (h0 : (Arr 8 (BitVec 32))) (s1 : (List UInt8)) : C_sum_step → Option (C_sum_step ⊕ (Arr 8 (BitVec 32)))
  | .S =>
    ((g_sum_words s1).bind fun (x_1 : (Arr 64 (BitVec 32))) =>
    ((g_sum_rounds ).bind fun (x_3 : (Arr 64 (BitVec 32))) =>
    some (.inl (.L1 (0) x_1 x_3 h0))))
  | .L1 v18 v5_2 v6_2 v7 =>
    (bif (decide (v18 < (64 : Int))) then
    ((g_sum_mix (idx v7.1 (4 : Int)) (6) (11) (25) false).bind fun (x_7 : (BitVec 32)) =>
    gO (0 ≤ v18 ∧ v18 < ((64 : Nat) : Int)) (
    gO (0 ≤ v18 ∧ v18 < ((64 : Nat) : Int)) (
    ((g_sum_mix (idx v7.1 (0 : Int)) (2) (13) (22) false).bind fun (x_11 : (BitVec 32)) =>
    gO (inI (v18 + (1 : Int))) (
    some (.inl (.L1 (v18 + (1 : Int)) v5_2 v6_2 (⟨[((((((idx v7.1 (7 : Int)) + x_7) + (((idx v7.1 (4 : Int)) &&& (idx v7.1 (5 : Int))) ^^^ ((~~~(idx v7.1 (4 : Int))) &&& (idx v7.1 (6 : Int))))) + (idx v6_2.1 v18)) + (idx v5_2.1 v18)) + (x_11 + ((((idx v7.1 (0 : Int)) &&& (idx v7.1 (1 : Int))) ^^^ ((idx v7.1 (0 : Int)) &&& (idx v7.1 (2 : Int)))) ^^^ ((idx v7.1 (1 : Int)) &&& (idx v7.1 (2 : Int)))))), (idx v7.1 (0 : Int)), (idx v7.1 (1 : Int)), (idx v7.1 (2 : Int)), ((idx v7.1 (3 : Int)) + (((((idx v7.1 (7 : Int)) + x_7) + (((idx v7.1 (4 : Int)) &&& (idx v7.1 (5 : Int))) ^^^ ((~~~(idx v7.1 (4 : Int))) &&& (idx v7.1 (6 : Int))))) + (idx v6_2.1 v18)) + (idx v5_2.1 v18))), (idx v7.1 (4 : Int)), (idx v7.1 (5 : Int)), (idx v7.1 (6 : Int))], rfl⟩ : (Arr 8 (BitVec 32))))))))))
    else
    some (.inl (.L2 (0) h0 v7)))
  | .L2 v92 v2 v7_4 =>
    (bif (decide (v92 < (8 : Int))) then
    gO (0 ≤ v92 ∧ v92 < ((8 : Nat) : Int)) (
    gO (0 ≤ v92 ∧ v92 < ((8 : Nat) : Int)) (
    gO (0 ≤ v92 ∧ v92 < ((8 : Nat) : Int)) (
    gO (inI (v92 + (1 : Int))) (
    some (.inl (.L2 (v92 + (1 : Int)) (v2.put v92 ((idx v2.1 v92) + (idx v7_4.1 v92))) v7_4))))))
    else
    some (.inr v2))
noncomputable def g_sum_step (h0 : (Arr 8 (BitVec 32))) (s1 : (List UInt8)) : Option (Arr 8 (BitVec 32)) := theC (step_sum_step h0 s1) .S
theorem sim_sum_step (h0 : (Arr 8 (BitVec 32))) (s1 : (List UInt8)) (r : (Arr 8 (BitVec 32))) (h : g_sum_step h0 s1 = some r) : Fun Try.prog 26 [.agg (h0.1.map e32), .val (sV s1)] (.agg (r.1.map e32)) := by
  refine Fun.of_bodyQ Try.func26 rfl (by simp [Try.ntmps26]) ?_
  rw [Try.ntmps26, TT.res_26]
  refine QW.view (s' := ⟨tab [(0, .d (.agg (h0.1.map e32))), (1, pS s1)], tabH [], 0, []⟩) (View.init (by rfl)) zL ?_
  replace h := theC_get h
  obtain ⟨_, h⟩ := h
  obtain ⟨k_0, rfl, h9⟩ := run_succ h; replace h := h9; clear h9; rw [step_sum_step] at h
  refine sR ?_
  refine xs 2 rfl (sf_boxV (c := ((h0.1.map e32).map .d)) rfl rfl rfl rfl rfl ?_)
  refine xs 4 rfl (sf_alloc (l := (((Arr.rep 8 (0 : BitVec 32)).1.map e32).map .d)) rfl TT.zeroA_66 rfl rfl ?_)
  refine XK.nz ?_
  refine sR ?_
  refine xm 14 (pS s1) ?_
  obtain ⟨x_1, hx_2, h⟩ := bG h
  refine xs 15 rfl (sf_call rfl rfl TT.enters_48 rfl (sim_sum_words s1 _ hx_2) ?_)
  obtain ⟨x_3, hx_4, h⟩ := bG h
  refine xs 16 rfl (sf_call rfl rfl TT.enters_49 rfl (sim_sum_rounds  _ hx_4) ?_)
  refine xs 5 rfl (sf_alloc (l := (((Arr.rep 64 (0 : BitVec 32)).1.map e32).map .d)) rfl TT.zeroA_95 rfl rfl ?_)
  refine xs 6 rfl (sf_alloc (l := (((Arr.rep 64 (0 : BitVec 32)).1.map e32).map .d)) rfl TT.zeroA_95 rfl rfl ?_)
  refine XK.st none rfl rfl (sf_stV (l' := ((x_1.1.map e32).map .d)) rfl TT.tyA_95 rfl rfl rfl rfl rfl (len_map2 _) (le_map2 _) (spl_same ((len_map2 _).trans (len_map2 _).symm)) ?_)
  refine XK.st none rfl rfl (sf_stV (l' := ((x_3.1.map e32).map .d)) rfl TT.tyA_95 rfl rfl rfl rfl rfl (len_map2 _) (le_map2 _) (spl_same ((len_map2 _).trans (len_map2 _).symm)) ?_)
  refine XK.nz ?_
  refine sR ?_
  refine XK.as (some 17) rfl rfl (sf_ldV (v := .agg ((h0.1.map e32).map .d)) rfl TT.tyA_66 rfl rfl (ldv_all (by decide)) ⟨.d (.agg (h0.1.map e32)), imp_arr, ?_⟩)
  refine xs 7 rfl (sf_alloc (l := (((Arr.rep 8 (0 : BitVec 32)).1.map e32).map .d)) rfl TT.zeroA_66 rfl rfl ?_)
  refine XK.st none rfl rfl (sf_stV (l' := ((h0.1.map e32).map .d)) rfl TT.tyA_66 rfl rfl rfl rfl rfl (len_map2 _) (le_map2 _) (spl_same ((len_map2 _).trans (len_map2 _).symm)) ?_)
  refine XK.nz ?_
  refine QW.seq ?_
  refine sR ?_
  refine xm 18 (pI (0)) ?_
  refine XK.nz ?_
  refine QW.block ?_
  refine QW.loop (fun k σ => ∃ v18 : Int, ∃ v5_2 : (Arr 64 (BitVec 32)), ∃ v6_2 : (Arr 64 (BitVec 32)), ∃ v7 : (Arr 8 (BitVec 32)), k ≤ k_0 ∧ run (step_sum_step h0 s1) k (.L1 v18 v5_2 v6_2 v7) = some r ∧ σ = ⟨tab [(2, .vptr 0 0), (4, .vptr 1 0), (5, .vptr 2 0), (6, .vptr 3 0), (7, .vptr 4 0), (18, pI v18)], tabH [.var ((h0.1.map e32).map .d), .var (((Arr.rep 8 (0 : BitVec 32)).1.map e32).map .d), .var ((v5_2.1.map e32).map .d), .var ((v6_2.1.map e32).map .d), .var ((v7.1.map e32).map .d)], 5, []⟩) k_0 zL ⟨⟨tab [(2, .vptr 0 0), (4, .vptr 1 0), (5, .vptr 2 0), (6, .vptr 3 0), (7, .vptr 4 0), (18, pI (0))], tabH [.var ((h0.1.map e32).map .d), .var (((Arr.rep 8 (0 : BitVec 32)).1.map e32).map .d), .var ((x_1.1.map e32).map .d), .var ((x_3.1.map e32).map .d), .var ((h0.1.map e32).map .d)], 5, []⟩, View.mk 5 [0, 1, 2, 3, 4] _ _ _ rfl rfl (by decide) (iC (iC (iC (iC (iC (iC trivial)))))) (And.intro (by simp only [atH1, rowC, PV.res_d]; rfl) (And.intro (by simp only [atH1, rowC, PV.res_d]; rfl) (And.intro (by simp only [atH1, rowC, PV.res_d]; rfl) (And.intro (by simp only [atH1, rowC, PV.res_d]; rfl) (And.intro (by simp only [atH1, rowC, PV.res_d]; rfl) trivial))))) rfl zL rfl, 0, x_1, x_3, h0, Nat.le_refl _, jG h, rfl⟩ ?_
  rintro k_5s _ ⟨v18, v5_2, v6_2, v7, k_5h, h, rfl⟩
  obtain ⟨k_5, rfl, h9⟩ := run_succ h; replace h := h9; clear h9; rw [step_sum_step] at h
  refine sR ?_
  refine xs 19 rfl (sf_lss (a := v18) (b := (64 : Int)) rfl rfl rfl ?_)
  refine XK.nz ?_
  refine QW.seq ?_
  refine QW.cond (t := (decide (v18 < (64 : Int)))) rfl zL (fun hb_6 => ?_) (fun hb_6 => ?_)
  · replace h := bGT h hb_6
    refine QW.skip zL (nrm ?_)
    refine QW.seq ?_
    refine QW.block ?_
    refine sR ?_
    refine xm 20 (pI v18) ?_
    refine xz 8 (pI v18) ?_
    refine sR ?_
    refine xs 21 rfl (sf_idxV (i := (4 : Int)) rfl TT.slcA_66 TT.arrA_66 rfl rfl (by decide) ?_)
    refine xs 22 rfl (sf_ldV (v := .d (.val (.int .u32 ((idx v7.1 (4 : Int)).toNat : Int)))) rfl TT.tyA_65 rfl rfl (ldv_arr (by decide)) ?_)
    refine xs 23 rfl (sf_idxV (i := (5 : Int)) rfl TT.slcA_66 TT.arrA_66 rfl rfl (by decide) ?_)
    refine xs 24 rfl (sf_ldV (v := .d (.val (.int .u32 ((idx v7.1 (5 : Int)).toNat : Int)))) rfl TT.tyA_65 rfl rfl (ldv_arr (by decide)) ?_)
    refine xs 25 rfl (sf_wand' (a := (idx v7.1 (4 : Int))) (b := (idx v7.1 (5 : Int))) rfl rfl rfl ?_)
    refine xs 26 rfl (sf_idxV (i := (4 : Int)) rfl TT.slcA_66 TT.arrA_66 rfl rfl (by decide) ?_)
    refine xs 27 rfl (sf_ldV (v := .d (.val (.int .u32 ((idx v7.1 (4 : Int)).toNat : Int)))) rfl TT.tyA_65 rfl rfl (ldv_arr (by decide)) ?_)
    refine xs 28 rfl (sf_wnot' (a := (idx v7.1 (4 : Int))) rfl rfl rfl (by decide) ?_)
    refine xs 29 rfl (sf_idxV (i := (6 : Int)) rfl TT.slcA_66 TT.arrA_66 rfl rfl (by decide) ?_)
    refine xs 30 rfl (sf_ldV (v := .d (.val (.int .u32 ((idx v7.1 (6 : Int)).toNat : Int)))) rfl TT.tyA_65 rfl rfl (ldv_arr (by decide)) ?_)
    refine xs 31 rfl (sf_wand' (a := (~~~(idx v7.1 (4 : Int)))) (b := (idx v7.1 (6 : Int))) rfl rfl rfl ?_)
    refine xs 32 rfl (sf_wxor' (a := ((idx v7.1 (4 : Int)) &&& (idx v7.1 (5 : Int)))) (b := ((~~~(idx v7.1 (4 : Int))) &&& (idx v7.1 (6 : Int)))) rfl rfl rfl ?_)
    refine xz 9 (.d (.val (.int .u32 ((((idx v7.1 (4 : Int)) &&& (idx v7.1 (5 : Int))) ^^^ ((~~~(idx v7.1 (4 : Int))) &&& (idx v7.1 (6 : Int)))).toNat : Int)))) ?_
    refine QW.seq ?_
    refine QW.view (s' := ⟨tab [(2, .vptr 0 0), (4, .vptr 1 0), (5, .vptr 2 0), (6, .vptr 3 0), (7, .vptr 4 0), (8, pI v18), (9, .d (.val (.int .u32 ((((idx v7.1 (4 : Int)) &&& (idx v7.1 (5 : Int))) ^^^ ((~~~(idx v7.1 (4 : Int))) &&& (idx v7.1 (6 : Int)))).toNat : Int)))), (18, pI v18)], tabH [.var ((h0.1.map e32).map .d), .var (((Arr.rep 8 (0 : BitVec 32)).1.map e32).map .d), .var ((v5_2.1.map e32).map .d), .var ((v6_2.1.map e32).map .d), .var ((v7.1.map e32).map .d)], 5, []⟩) (View.mk 5 [0, 1, 2, 3, 4] _ _ _ rfl rfl (by decide) (iC (iC (iC (iC (iC (iC (iC (iC trivial)))))))) (And.intro (by simp only [atH1, rowC, PV.res_d]; rfl) (And.intro (by simp only [atH1, rowC, PV.res_d]; rfl) (And.intro (by simp only [atH1, rowC, PV.res_d]; rfl) (And.intro (by simp only [atH1, rowC, PV.res_d]; rfl) (And.intro (by simp only [atH1, rowC, PV.res_d]; rfl) trivial))))) rfl zL rfl) zL ?_
    refine rG ?_
    refine xs 33 rfl (sf_idxV (i := (0 : Int)) rfl TT.slcA_66 TT.arrA_66 rfl rfl (by decide) ?_)
    refine xs 34 rfl (sf_ldV (v := .d (.val (.int .u32 ((idx v7.1 (0 : Int)).toNat : Int)))) rfl TT.tyA_65 rfl rfl (ldv_arr (by decide)) ?_)
    refine xs 35 rfl (sf_idxV (i := (1 : Int)) rfl TT.slcA_66 TT.arrA_66 rfl rfl (by decide) ?_)
    refine xs 36 rfl (sf_ldV (v := .d (.val (.int .u32 ((idx v7.1 (1 : Int)).toNat : Int)))) rfl TT.tyA_65 rfl rfl (ldv_arr (by decide)) ?_)
    refine xs 37 rfl (sf_wand' (a := (idx v7.1 (0 : Int))) (b := (idx v7.1 (1 : Int))) rfl rfl rfl ?_)
    refine xs 38 rfl (sf_idxV (i := (0 : Int)) rfl TT.slcA_66 TT.arrA_66 rfl rfl (by decide) ?_)
    refine xs 39 rfl (sf_ldV (v := .d (.val (.int .u32 ((idx v7.1 (0 : Int)).toNat : Int)))) rfl TT.tyA_65 rfl rfl (ldv_arr (by decide)) ?_)
    refine xs 40 rfl (sf_idxV (i := (2 : Int)) rfl TT.slcA_66 TT.arrA_66 rfl rfl (by decide) ?_)
    refine xs 41 rfl (sf_ldV (v := .d (.val (.int .u32 ((idx v7.1 (2 : Int)).toNat : Int)))) rfl TT.tyA_65 rfl rfl (ldv_arr (by decide)) ?_)
    refine xs 42 rfl (sf_wand' (a := (idx v7.1 (0 : Int))) (b := (idx v7.1 (2 : Int))) rfl rfl rfl ?_)
    refine xs 43 rfl (sf_wxor' (a := ((idx v7.1 (0 : Int)) &&& (idx v7.1 (1 : Int)))) (b := ((idx v7.1 (0 : Int)) &&& (idx v7.1 (2 : Int)))) rfl rfl rfl ?_)
    refine xs 44 rfl (sf_idxV (i := (1 : Int)) rfl TT.slcA_66 TT.arrA_66 rfl rfl (by decide) ?_)
    refine xs 45 rfl (sf_ldV (v := .d (.val (.int .u32 ((idx v7.1 (1 : Int)).toNat : Int)))) rfl TT.tyA_65 rfl rfl (ldv_arr (by decide)) ?_)
    refine xs 46 rfl (sf_idxV (i := (2 : Int)) rfl TT.slcA_66 TT.arrA_66 rfl rfl (by decide) ?_)
    refine xs 47 rfl (sf_ldV (v := .d (.val (.int .u32 ((idx v7.1 (2 : Int)).toNat : Int)))) rfl TT.tyA_65 rfl rfl (ldv_arr (by decide)) ?_)
    refine xs 48 rfl (sf_wand' (a := (idx v7.1 (1 : Int))) (b := (idx v7.1 (2 : Int))) rfl rfl rfl ?_)
    refine xs 49 rfl (sf_wxor' (a := (((idx v7.1 (0 : Int)) &&& (idx v7.1 (1 : Int))) ^^^ ((idx v7.1 (0 : Int)) &&& (idx v7.1 (2 : Int))))) (b := ((idx v7.1 (1 : Int)) &&& (idx v7.1 (2 : Int)))) rfl rfl rfl ?_)
    refine xz 10 (.d (.val (.int .u32 (((((idx v7.1 (0 : Int)) &&& (idx v7.1 (1 : Int))) ^^^ ((idx v7.1 (0 : Int)) &&& (idx v7.1 (2 : Int)))) ^^^ ((idx v7.1 (1 : Int)) &&& (idx v7.1 (2 : Int)))).toNat : Int)))) ?_
    refine QW.seq ?_
    refine QW.view (s' := ⟨tab [(2, .vptr 0 0), (4, .vptr 1 0), (5, .vptr 2 0), (6, .vptr 3 0), (7, .vptr 4 0), (8, pI v18), (9, .d (.val (.int .u32 ((((idx v7.1 (4 : Int)) &&& (idx v7.1 (5 : Int))) ^^^ ((~~~(idx v7.1 (4 : Int))) &&& (idx v7.1 (6 : Int)))).toNat : Int)))), (10, .d (.val (.int .u32 (((((idx v7.1 (0 : Int)) &&& (idx v7.1 (1 : Int))) ^^^ ((idx v7.1 (0 : Int)) &&& (idx v7.1 (2 : Int)))) ^^^ ((idx v7.1 (1 : Int)) &&& (idx v7.1 (2 : Int)))).toNat : Int)))), (18, pI v18)], tabH [.var ((h0.1.map e32).map .d), .var (((Arr.rep 8 (0 : BitVec 32)).1.map e32).map .d), .var ((v5_2.1.map e32).map .d), .var ((v6_2.1.map e32).map .d), .var ((v7.1.map e32).map .d)], 5, []⟩) (View.mk 5 [0, 1, 2, 3, 4] _ _ _ rfl rfl (by decide) (iC (iC (iC (iC (iC (iC (iC (iC (iC trivial))))))))) (And.intro (by simp only [atH1, rowC, PV.res_d]; rfl) (And.intro (by simp only [atH1, rowC, PV.res_d]; rfl) (And.intro (by simp only [atH1, rowC, PV.res_d]; rfl) (And.intro (by simp only [atH1, rowC, PV.res_d]; rfl) (And.intro (by simp only [atH1, rowC, PV.res_d]; rfl) trivial))))) rfl zL rfl) zL ?_
    refine QW.region zL (PW.regQ (id := 8) mixedX (M := _) rfl (by kernel_rfl) ?_)
    refine RQ.st (some 50) rfl rfl (sf_idxV (i := (7 : Int)) rfl TT.slcA_66 TT.arrA_66 rfl rfl (by decide) ⟨⟨rfl, rfl⟩, ?_⟩)
    refine RQ.st (some 51) rfl rfl (sf_ldV (v := .d (.val (.int .u32 ((idx v7.1 (7 : Int)).toNat : Int)))) rfl TT.tyA_65 rfl rfl (ldv_arr (by decide)) ⟨⟨rfl, rfl⟩, ?_⟩)
    refine RQ.st (some 52) rfl rfl (sf_idxV (i := (4 : Int)) rfl TT.slcA_66 TT.arrA_66 rfl rfl (by decide) ⟨⟨rfl, rfl⟩, ?_⟩)
    refine RQ.st (some 53) rfl rfl (sf_ldV (v := .d (.val (.int .u32 ((idx v7.1 (4 : Int)).toNat : Int)))) rfl TT.tyA_65 rfl rfl (ldv_arr (by decide)) ⟨⟨rfl, rfl⟩, ?_⟩)
    obtain ⟨x_7, hx_8, h⟩ := bG h
    refine RQ.st (some 54) rfl rfl (sf_call rfl rfl TT.enters_50 rfl (sim_sum_mix (idx v7.1 (4 : Int)) (6) (11) (25) false _ hx_8) ⟨⟨rfl, rfl⟩, ?_⟩)
    refine RQ.st (some 55) rfl rfl (sf_wadd' (a := (idx v7.1 (7 : Int))) (b := x_7) rfl rfl rfl ⟨⟨rfl, rfl⟩, ?_⟩)
    refine RQ.st (some 56) rfl rfl (sf_move (v := .d (.val (.int .u32 ((((idx v7.1 (4 : Int)) &&& (idx v7.1 (5 : Int))) ^^^ ((~~~(idx v7.1 (4 : Int))) &&& (idx v7.1 (6 : Int)))).toNat : Int)))) rfl rfl ⟨⟨rfl, rfl⟩, ?_⟩)
    refine RQ.st (some 57) rfl rfl (sf_wadd' (a := ((idx v7.1 (7 : Int)) + x_7)) (b := (((idx v7.1 (4 : Int)) &&& (idx v7.1 (5 : Int))) ^^^ ((~~~(idx v7.1 (4 : Int))) &&& (idx v7.1 (6 : Int))))) rfl rfl rfl ⟨⟨rfl, rfl⟩, ?_⟩)
    refine RQ.st (some 58) rfl rfl (sf_move (v := pI v18) rfl rfl ⟨⟨rfl, rfl⟩, ?_⟩)
    obtain ⟨c_9, h⟩ := gG h
    refine RQ.st (some 59) rfl rfl (sf_idxV (i := v18) rfl TT.slcA_95 TT.arrA_95 rfl rfl c_9 ⟨⟨rfl, rfl⟩, ?_⟩)
    refine RQ.st (some 60) rfl rfl (sf_ldV (v := .d (.val (.int .u32 ((idx v6_2.1 v18).toNat : Int)))) rfl TT.tyA_65 rfl rfl (ldv_arr c_9) ⟨⟨rfl, rfl⟩, ?_⟩)
    refine RQ.st (some 61) rfl rfl (sf_wadd' (a := (((idx v7.1 (7 : Int)) + x_7) + (((idx v7.1 (4 : Int)) &&& (idx v7.1 (5 : Int))) ^^^ ((~~~(idx v7.1 (4 : Int))) &&& (idx v7.1 (6 : Int)))))) (b := (idx v6_2.1 v18)) rfl rfl rfl ⟨⟨rfl, rfl⟩, ?_⟩)
    refine RQ.st (some 62) rfl rfl (sf_move (v := pI v18) rfl rfl ⟨⟨rfl, rfl⟩, ?_⟩)
    obtain ⟨c_10, h⟩ := gG h
    refine RQ.st (some 63) rfl rfl (sf_idxV (i := v18) rfl TT.slcA_95 TT.arrA_95 rfl rfl c_10 ⟨⟨rfl, rfl⟩, ?_⟩)
    refine RQ.st (some 64) rfl rfl (sf_ldV (v := .d (.val (.int .u32 ((idx v5_2.1 v18).toNat : Int)))) rfl TT.tyA_65 rfl rfl (ldv_arr c_10) ⟨⟨rfl, rfl⟩, ?_⟩)
    refine RQ.st (some 65) rfl rfl (sf_wadd' (a := ((((idx v7.1 (7 : Int)) + x_7) + (((idx v7.1 (4 : Int)) &&& (idx v7.1 (5 : Int))) ^^^ ((~~~(idx v7.1 (4 : Int))) &&& (idx v7.1 (6 : Int))))) + (idx v6_2.1 v18))) (b := (idx v5_2.1 v18)) rfl rfl rfl ⟨⟨rfl, rfl⟩, ?_⟩)
    refine RQ.st (some 11) rfl rfl (sf_assign (v := .d (.val (.int .u32 ((((((idx v7.1 (7 : Int)) + x_7) + (((idx v7.1 (4 : Int)) &&& (idx v7.1 (5 : Int))) ^^^ ((~~~(idx v7.1 (4 : Int))) &&& (idx v7.1 (6 : Int))))) + (idx v6_2.1 v18)) + (idx v5_2.1 v18)).toNat : Int)))) rfl rfl ⟨⟨rfl, rfl⟩, ?_⟩)
    refine RQ.nil (nrm ?_)
    refine QW.seq ?_
    refine QW.view (s' := ⟨tab [(2, .vptr 0 0), (4, .vptr 1 0), (5, .vptr 2 0), (6, .vptr 3 0), (7, .vptr 4 0), (10, .d (.val (.int .u32 (((((idx v7.1 (0 : Int)) &&& (idx v7.1 (1 : Int))) ^^^ ((idx v7.1 (0 : Int)) &&& (idx v7.1 (2 : Int)))) ^^^ ((idx v7.1 (1 : Int)) &&& (idx v7.1 (2 : Int)))).toNat : Int)))), (11, .d (.val (.int .u32 ((((((idx v7.1 (7 : Int)) + x_7) + (((idx v7.1 (4 : Int)) &&& (idx v7.1 (5 : Int))) ^^^ ((~~~(idx v7.1 (4 : Int))) &&& (idx v7.1 (6 : Int))))) + (idx v6_2.1 v18)) + (idx v5_2.1 v18)).toNat : Int)))), (18, pI v18)], tabH [.var ((h0.1.map e32).map .d), .var (((Arr.rep 8 (0 : BitVec 32)).1.map e32).map .d), .var ((v5_2.1.map e32).map .d), .var ((v6_2.1.map e32).map .d), .var ((v7.1.map e32).map .d)], 5, []⟩) (View.mk 5 [0, 1, 2, 3, 4] _ _ _ rfl rfl (by decide) (iC (iC (iC (iC (iC (iC (iC (iC trivial)))))))) (And.intro (by simp only [atH1, rowC, PV.res_d]; rfl) (And.intro (by simp only [atH1, rowC, PV.res_d]; rfl) (And.intro (by simp only [atH1, rowC, PV.res_d]; rfl) (And.intro (by simp only [atH1, rowC, PV.res_d]; rfl) (And.intro (by simp only [atH1, rowC, PV.res_d]; rfl) trivial))))) rfl zL rfl) zL ?_
    refine rG ?_
    refine xs 66 rfl (sf_idxV (i := (0 : Int)) rfl TT.slcA_66 TT.arrA_66 rfl rfl (by decide) ?_)
    refine xs 67 rfl (sf_ldV (v := .d (.val (.int .u32 ((idx v7.1 (0 : Int)).toNat : Int)))) rfl TT.tyA_65 rfl rfl (ldv_arr (by decide)) ?_)
    obtain ⟨x_11, hx_12, h⟩ := bG h
    refine xs 68 rfl (sf_call rfl rfl TT.enters_50 rfl (sim_sum_mix (idx v7.1 (0 : Int)) (2) (13) (22) false _ hx_12) ?_)
    refine xm 69 (.d (.val (.int .u32 (((((idx v7.1 (0 : Int)) &&& (idx v7.1 (1 : Int))) ^^^ ((idx v7.1 (0 : Int)) &&& (idx v7.1 (2 : Int)))) ^^^ ((idx v7.1 (1 : Int)) &&& (idx v7.1 (2 : Int)))).toNat : Int)))) ?_
    refine xs 70 rfl (sf_wadd' (a := x_11) (b := ((((idx v7.1 (0 : Int)) &&& (idx v7.1 (1 : Int))) ^^^ ((idx v7.1 (0 : Int)) &&& (idx v7.1 (2 : Int)))) ^^^ ((idx v7.1 (1 : Int)) &&& (idx v7.1 (2 : Int))))) rfl rfl rfl ?_)
    refine xz 12 (.d (.val (.int .u32 ((x_11 + ((((idx v7.1 (0 : Int)) &&& (idx v7.1 (1 : Int))) ^^^ ((idx v7.1 (0 : Int)) &&& (idx v7.1 (2 : Int)))) ^^^ ((idx v7.1 (1 : Int)) &&& (idx v7.1 (2 : Int))))).toNat : Int)))) ?_
    refine rG ?_
    refine xm 71 (.d (.val (.int .u32 ((((((idx v7.1 (7 : Int)) + x_7) + (((idx v7.1 (4 : Int)) &&& (idx v7.1 (5 : Int))) ^^^ ((~~~(idx v7.1 (4 : Int))) &&& (idx v7.1 (6 : Int))))) + (idx v6_2.1 v18)) + (idx v5_2.1 v18)).toNat : Int)))) ?_
    refine xm 72 (.d (.val (.int .u32 ((x_11 + ((((idx v7.1 (0 : Int)) &&& (idx v7.1 (1 : Int))) ^^^ ((idx v7.1 (0 : Int)) &&& (idx v7.1 (2 : Int)))) ^^^ ((idx v7.1 (1 : Int)) &&& (idx v7.1 (2 : Int))))).toNat : Int)))) ?_
    refine xs 73 rfl (sf_wadd' (a := (((((idx v7.1 (7 : Int)) + x_7) + (((idx v7.1 (4 : Int)) &&& (idx v7.1 (5 : Int))) ^^^ ((~~~(idx v7.1 (4 : Int))) &&& (idx v7.1 (6 : Int))))) + (idx v6_2.1 v18)) + (idx v5_2.1 v18))) (b := (x_11 + ((((idx v7.1 (0 : Int)) &&& (idx v7.1 (1 : Int))) ^^^ ((idx v7.1 (0 : Int)) &&& (idx v7.1 (2 : Int)))) ^^^ ((idx v7.1 (1 : Int)) &&& (idx v7.1 (2 : Int)))))) rfl rfl rfl ?_)
    refine xs 74 rfl (sf_idxV (i := (0 : Int)) rfl TT.slcA_66 TT.arrA_66 rfl rfl (by decide) ?_)
    refine xs 75 rfl (sf_ldV (v := .d (.val (.int .u32 ((idx v7.1 (0 : Int)).toNat : Int)))) rfl TT.tyA_65 rfl rfl (ldv_arr (by decide)) ?_)
    refine xs 76 rfl (sf_idxV (i := (1 : Int)) rfl TT.slcA_66 TT.arrA_66 rfl rfl (by decide) ?_)
    refine xs 77 rfl (sf_ldV (v := .d (.val (.int .u32 ((idx v7.1 (1 : Int)).toNat : Int)))) rfl TT.tyA_65 rfl rfl (ldv_arr (by decide)) ?_)
    refine xs 78 rfl (sf_idxV (i := (2 : Int)) rfl TT.slcA_66 TT.arrA_66 rfl rfl (by decide) ?_)
    refine xs 79 rfl (sf_ldV (v := .d (.val (.int .u32 ((idx v7.1 (2 : Int)).toNat : Int)))) rfl TT.tyA_65 rfl rfl (ldv_arr (by decide)) ?_)
    refine xs 80 rfl (sf_idxV (i := (3 : Int)) rfl TT.slcA_66 TT.arrA_66 rfl rfl (by decide) ?_)
    refine xs 81 rfl (sf_ldV (v := .d (.val (.int .u32 ((idx v7.1 (3 : Int)).toNat : Int)))) rfl TT.tyA_65 rfl rfl (ldv_arr (by decide)) ?_)
    refine xm 82 (.d (.val (.int .u32 ((((((idx v7.1 (7 : Int)) + x_7) + (((idx v7.1 (4 : Int)) &&& (idx v7.1 (5 : Int))) ^^^ ((~~~(idx v7.1 (4 : Int))) &&& (idx v7.1 (6 : Int))))) + (idx v6_2.1 v18)) + (idx v5_2.1 v18)).toNat : Int)))) ?_
    refine xs 83 rfl (sf_wadd' (a := (idx v7.1 (3 : Int))) (b := (((((idx v7.1 (7 : Int)) + x_7) + (((idx v7.1 (4 : Int)) &&& (idx v7.1 (5 : Int))) ^^^ ((~~~(idx v7.1 (4 : Int))) &&& (idx v7.1 (6 : Int))))) + (idx v6_2.1 v18)) + (idx v5_2.1 v18))) rfl rfl rfl ?_)
    refine xs 84 rfl (sf_idxV (i := (4 : Int)) rfl TT.slcA_66 TT.arrA_66 rfl rfl (by decide) ?_)
    refine xs 85 rfl (sf_ldV (v := .d (.val (.int .u32 ((idx v7.1 (4 : Int)).toNat : Int)))) rfl TT.tyA_65 rfl rfl (ldv_arr (by decide)) ?_)
    refine xs 86 rfl (sf_idxV (i := (5 : Int)) rfl TT.slcA_66 TT.arrA_66 rfl rfl (by decide) ?_)
    refine xs 87 rfl (sf_ldV (v := .d (.val (.int .u32 ((idx v7.1 (5 : Int)).toNat : Int)))) rfl TT.tyA_65 rfl rfl (ldv_arr (by decide)) ?_)
    refine xs 88 rfl (sf_idxV (i := (6 : Int)) rfl TT.slcA_66 TT.arrA_66 rfl rfl (by decide) ?_)
    refine xs 89 rfl (sf_ldV (v := .d (.val (.int .u32 ((idx v7.1 (6 : Int)).toNat : Int)))) rfl TT.tyA_65 rfl rfl (ldv_arr (by decide)) ?_)
    refine XK.as (some 90) rfl rfl (sf_build (v := .agg [.d (.val (.int .u32 (((((((idx v7.1 (7 : Int)) + x_7) + (((idx v7.1 (4 : Int)) &&& (idx v7.1 (5 : Int))) ^^^ ((~~~(idx v7.1 (4 : Int))) &&& (idx v7.1 (6 : Int))))) + (idx v6_2.1 v18)) + (idx v5_2.1 v18)) + (x_11 + ((((idx v7.1 (0 : Int)) &&& (idx v7.1 (1 : Int))) ^^^ ((idx v7.1 (0 : Int)) &&& (idx v7.1 (2 : Int)))) ^^^ ((idx v7.1 (1 : Int)) &&& (idx v7.1 (2 : Int)))))).toNat : Int))), .d (.val (.int .u32 ((idx v7.1 (0 : Int)).toNat : Int))), .d (.val (.int .u32 ((idx v7.1 (1 : Int)).toNat : Int))), .d (.val (.int .u32 ((idx v7.1 (2 : Int)).toNat : Int))), .d (.val (.int .u32 (((idx v7.1 (3 : Int)) + (((((idx v7.1 (7 : Int)) + x_7) + (((idx v7.1 (4 : Int)) &&& (idx v7.1 (5 : Int))) ^^^ ((~~~(idx v7.1 (4 : Int))) &&& (idx v7.1 (6 : Int))))) + (idx v6_2.1 v18)) + (idx v5_2.1 v18))).toNat : Int))), .d (.val (.int .u32 ((idx v7.1 (4 : Int)).toNat : Int))), .d (.val (.int .u32 ((idx v7.1 (5 : Int)).toNat : Int))), .d (.val (.int .u32 ((idx v7.1 (6 : Int)).toNat : Int)))]) rfl (by rw [TT.bldA_66]; simp [buildP, fillP, placeOf, partsQ, evP, PV.solid, PV.cellsP, Value.oneCell', spl, cellV, ofVal, List.all, putS_at, tab, unS, unT, asCond, unC]) (by rw [TT.bldA_66]; rfl) ⟨.d (.agg ((⟨[((((((idx v7.1 (7 : Int)) + x_7) + (((idx v7.1 (4 : Int)) &&& (idx v7.1 (5 : Int))) ^^^ ((~~~(idx v7.1 (4 : Int))) &&& (idx v7.1 (6 : Int))))) + (idx v6_2.1 v18)) + (idx v5_2.1 v18)) + (x_11 + ((((idx v7.1 (0 : Int)) &&& (idx v7.1 (1 : Int))) ^^^ ((idx v7.1 (0 : Int)) &&& (idx v7.1 (2 : Int)))) ^^^ ((idx v7.1 (1 : Int)) &&& (idx v7.1 (2 : Int)))))), (idx v7.1 (0 : Int)), (idx v7.1 (1 : Int)), (idx v7.1 (2 : Int)), ((idx v7.1 (3 : Int)) + (((((idx v7.1 (7 : Int)) + x_7) + (((idx v7.1 (4 : Int)) &&& (idx v7.1 (5 : Int))) ^^^ ((~~~(idx v7.1 (4 : Int))) &&& (idx v7.1 (6 : Int))))) + (idx v6_2.1 v18)) + (idx v5_2.1 v18))), (idx v7.1 (4 : Int)), (idx v7.1 (5 : Int)), (idx v7.1 (6 : Int))], rfl⟩ : (Arr 8 (BitVec 32))).1.map e32)), (Imp.toD rfl), ?_⟩)
    refine XK.st none rfl rfl (sf_stV (l' := (((⟨[((((((idx v7.1 (7 : Int)) + x_7) + (((idx v7.1 (4 : Int)) &&& (idx v7.1 (5 : Int))) ^^^ ((~~~(idx v7.1 (4 : Int))) &&& (idx v7.1 (6 : Int))))) + (idx v6_2.1 v18)) + (idx v5_2.1 v18)) + (x_11 + ((((idx v7.1 (0 : Int)) &&& (idx v7.1 (1 : Int))) ^^^ ((idx v7.1 (0 : Int)) &&& (idx v7.1 (2 : Int)))) ^^^ ((idx v7.1 (1 : Int)) &&& (idx v7.1 (2 : Int)))))), (idx v7.1 (0 : Int)), (idx v7.1 (1 : Int)), (idx v7.1 (2 : Int)), ((idx v7.1 (3 : Int)) + (((((idx v7.1 (7 : Int)) + x_7) + (((idx v7.1 (4 : Int)) &&& (idx v7.1 (5 : Int))) ^^^ ((~~~(idx v7.1 (4 : Int))) &&& (idx v7.1 (6 : Int))))) + (idx v6_2.1 v18)) + (idx v5_2.1 v18))), (idx v7.1 (4 : Int)), (idx v7.1 (5 : Int)), (idx v7.1 (6 : Int))], rfl⟩ : (Arr 8 (BitVec 32))).1.map e32).map .d)) rfl TT.tyA_66 rfl rfl rfl rfl rfl (len_map2 _) (le_map2 _) (spl_same ((len_map2 _).trans (len_map2 _).symm)) ?_)
    refine XK.nil (blN (nrm ?_))
    refine QW.view (s' := ⟨tab [(2, .vptr 0 0), (4, .vptr 1 0), (5, .vptr 2 0), (6, .vptr 3 0), (7, .vptr 4 0), (18, pI v18)], tabH [.var ((h0.1.map e32).map .d), .var (((Arr.rep 8 (0 : BitVec 32)).1.map e32).map .d), .var ((v5_2.1.map e32).map .d), .var ((v6_2.1.map e32).map .d), .var (((⟨[((((((idx v7.1 (7 : Int)) + x_7) + (((idx v7.1 (4 : Int)) &&& (idx v7.1 (5 : Int))) ^^^ ((~~~(idx v7.1 (4 : Int))) &&& (idx v7.1 (6 : Int))))) + (idx v6_2.1 v18)) + (idx v5_2.1 v18)) + (x_11 + ((((idx v7.1 (0 : Int)) &&& (idx v7.1 (1 : Int))) ^^^ ((idx v7.1 (0 : Int)) &&& (idx v7.1 (2 : Int)))) ^^^ ((idx v7.1 (1 : Int)) &&& (idx v7.1 (2 : Int)))))), (idx v7.1 (0 : Int)), (idx v7.1 (1 : Int)), (idx v7.1 (2 : Int)), ((idx v7.1 (3 : Int)) + (((((idx v7.1 (7 : Int)) + x_7) + (((idx v7.1 (4 : Int)) &&& (idx v7.1 (5 : Int))) ^^^ ((~~~(idx v7.1 (4 : Int))) &&& (idx v7.1 (6 : Int))))) + (idx v6_2.1 v18)) + (idx v5_2.1 v18))), (idx v7.1 (4 : Int)), (idx v7.1 (5 : Int)), (idx v7.1 (6 : Int))], rfl⟩ : (Arr 8 (BitVec 32))).1.map e32).map .d)], 5, []⟩) (View.mk 5 [0, 1, 2, 3, 4] _ _ _ rfl rfl (by decide) (iC (iC (iC (iC (iC (iC trivial)))))) (And.intro (by simp only [atH1, rowC, PV.res_d]; rfl) (And.intro (by simp only [atH1, rowC, PV.res_d]; rfl) (And.intro (by simp only [atH1, rowC, PV.res_d]; rfl) (And.intro (by simp only [atH1, rowC, PV.res_d]; rfl) (And.intro (by simp only [atH1, rowC, PV.res_d]; rfl) trivial))))) rfl zL rfl) zL ?_
    refine rG ?_
    obtain ⟨c_13, h⟩ := gG h
    refine xs 91 rfl (sf_add (a := v18) (b := (1 : Int)) rfl rfl rfl c_13 ?_)
    refine xm 18 (pI (v18 + (1 : Int))) ?_
    refine XK.nz ?_
    exact ⟨k_5, by omega, ⟨tab [(2, .vptr 0 0), (4, .vptr 1 0), (5, .vptr 2 0), (6, .vptr 3 0), (7, .vptr 4 0), (18, pI (v18 + (1 : Int)))], tabH [.var ((h0.1.map e32).map .d), .var (((Arr.rep 8 (0 : BitVec 32)).1.map e32).map .d), .var ((v5_2.1.map e32).map .d), .var ((v6_2.1.map e32).map .d), .var (((⟨[((((((idx v7.1 (7 : Int)) + x_7) + (((idx v7.1 (4 : Int)) &&& (idx v7.1 (5 : Int))) ^^^ ((~~~(idx v7.1 (4 : Int))) &&& (idx v7.1 (6 : Int))))) + (idx v6_2.1 v18)) + (idx v5_2.1 v18)) + (x_11 + ((((idx v7.1 (0 : Int)) &&& (idx v7.1 (1 : Int))) ^^^ ((idx v7.1 (0 : Int)) &&& (idx v7.1 (2 : Int)))) ^^^ ((idx v7.1 (1 : Int)) &&& (idx v7.1 (2 : Int)))))), (idx v7.1 (0 : Int)), (idx v7.1 (1 : Int)), (idx v7.1 (2 : Int)), ((idx v7.1 (3 : Int)) + (((((idx v7.1 (7 : Int)) + x_7) + (((idx v7.1 (4 : Int)) &&& (idx v7.1 (5 : Int))) ^^^ ((~~~(idx v7.1 (4 : Int))) &&& (idx v7.1 (6 : Int))))) + (idx v6_2.1 v18)) + (idx v5_2.1 v18))), (idx v7.1 (4 : Int)), (idx v7.1 (5 : Int)), (idx v7.1 (6 : Int))], rfl⟩ : (Arr 8 (BitVec 32))).1.map e32).map .d)], 5, []⟩, View.mk 5 [0, 1, 2, 3, 4] _ _ _ rfl rfl (by decide) (iC (iC (iC (iC (iC (iC trivial)))))) (And.intro (by simp only [atH1, rowC, PV.res_d]; rfl) (And.intro (by simp only [atH1, rowC, PV.res_d]; rfl) (And.intro (by simp only [atH1, rowC, PV.res_d]; rfl) (And.intro (by simp only [atH1, rowC, PV.res_d]; rfl) (And.intro (by simp only [atH1, rowC, PV.res_d]; rfl) trivial))))) rfl zL rfl, (v18 + (1 : Int)), v5_2, v6_2, (⟨[((((((idx v7.1 (7 : Int)) + x_7) + (((idx v7.1 (4 : Int)) &&& (idx v7.1 (5 : Int))) ^^^ ((~~~(idx v7.1 (4 : Int))) &&& (idx v7.1 (6 : Int))))) + (idx v6_2.1 v18)) + (idx v5_2.1 v18)) + (x_11 + ((((idx v7.1 (0 : Int)) &&& (idx v7.1 (1 : Int))) ^^^ ((idx v7.1 (0 : Int)) &&& (idx v7.1 (2 : Int)))) ^^^ ((idx v7.1 (1 : Int)) &&& (idx v7.1 (2 : Int)))))), (idx v7.1 (0 : Int)), (idx v7.1 (1 : Int)), (idx v7.1 (2 : Int)), ((idx v7.1 (3 : Int)) + (((((idx v7.1 (7 : Int)) + x_7) + (((idx v7.1 (4 : Int)) &&& (idx v7.1 (5 : Int))) ^^^ ((~~~(idx v7.1 (4 : Int))) &&& (idx v7.1 (6 : Int))))) + (idx v6_2.1 v18)) + (idx v5_2.1 v18))), (idx v7.1 (4 : Int)), (idx v7.1 (5 : Int)), (idx v7.1 (6 : Int))], rfl⟩ : (Arr 8 (BitVec 32))), by omega, jG h, rfl⟩
  · replace h := bGF h hb_6
    refine QW.exit zL (thX (thX (exE (nrm ?_))))
    refine QW.seq ?_
    refine sR ?_
    refine xm 92 (pI (0)) ?_
    refine XK.nz ?_
    refine QW.block ?_
    refine QW.loop (fun k σ => ∃ v92 : Int, ∃ v2 : (Arr 8 (BitVec 32)), ∃ v7_4 : (Arr 8 (BitVec 32)), k ≤ k_5 ∧ run (step_sum_step h0 s1) k (.L2 v92 v2 v7_4) = some r ∧ σ = ⟨tab [(2, .vptr 0 0), (4, .vptr 1 0), (7, .vptr 2 0), (92, pI v92)], tabH [.var ((v2.1.map e32).map .d), .var (((Arr.rep 8 (0 : BitVec 32)).1.map e32).map .d), .var ((v7_4.1.map e32).map .d)], 3, []⟩) k_5 zL ⟨⟨tab [(2, .vptr 0 0), (4, .vptr 1 0), (7, .vptr 2 0), (92, pI (0))], tabH [.var ((h0.1.map e32).map .d), .var (((Arr.rep 8 (0 : BitVec 32)).1.map e32).map .d), .var ((v7.1.map e32).map .d)], 3, []⟩, View.mk 3 [0, 1, 4] _ _ _ rfl rfl (by decide) (iC (iC (iC (iC trivial)))) (And.intro (by simp only [atH1, rowC, PV.res_d]; rfl) (And.intro (by simp only [atH1, rowC, PV.res_d]; rfl) (And.intro (by simp only [atH1, rowC, PV.res_d]; rfl) trivial))) rfl zL rfl, 0, h0, v7, Nat.le_refl _, jG h, rfl⟩ ?_
    rintro k_14s _ ⟨v92, v2, v7_4, k_14h, h, rfl⟩
    obtain ⟨k_14, rfl, h9⟩ := run_succ h; replace h := h9; clear h9; rw [step_sum_step] at h
    refine sR ?_
    refine xs 93 rfl (sf_lss (a := v92) (b := (8 : Int)) rfl rfl rfl ?_)
    refine XK.nz ?_
    refine QW.seq ?_
    refine QW.cond (t := (decide (v92 < (8 : Int)))) rfl zL (fun hb_15 => ?_) (fun hb_15 => ?_)
    · replace h := bGT h hb_15
      refine QW.skip zL (nrm ?_)
      refine QW.seq ?_
      refine QW.block ?_
      refine sR ?_
      refine xm 94 (pI v92) ?_
      refine xz 13 (pI v92) ?_
      refine QW.region zL (PW.regK (id := 15) mixedX (M := _) rfl (by kernel_rfl) ?_)
      refine RK.st (some 95) rfl rfl (sf_move (v := pI v92) rfl rfl ?_)
      obtain ⟨c_16, h⟩ := gG h
      refine RK.st (some 96) rfl rfl (sf_idxV (i := v92) rfl TT.slcA_66 TT.arrA_66 rfl rfl c_16 ?_)
      refine RK.st (some 97) rfl rfl (sf_ldV (v := .d (.val (.int .u32 ((idx v2.1 v92).toNat : Int)))) rfl TT.tyA_65 rfl rfl (ldv_arr c_16) ?_)
      refine RK.st (some 98) rfl rfl (sf_move (v := pI v92) rfl rfl ?_)
      obtain ⟨c_17, h⟩ := gG h
      refine RK.st (some 99) rfl rfl (sf_idxV (i := v92) rfl TT.slcA_66 TT.arrA_66 rfl rfl c_17 ?_)
      refine RK.st (some 100) rfl rfl (sf_ldV (v := .d (.val (.int .u32 ((idx v7_4.1 v92).toNat : Int)))) rfl TT.tyA_65 rfl rfl (ldv_arr c_17) ?_)
      refine RK.st (some 101) rfl rfl (sf_wadd' (a := (idx v2.1 v92)) (b := (idx v7_4.1 v92)) rfl rfl rfl ?_)
      obtain ⟨c_18, h⟩ := gG h
      refine RK.st (some 102) rfl rfl (sf_idxV (i := v92) rfl TT.slcA_66 TT.arrA_66 rfl rfl c_18 ?_)
      refine RK.st none rfl rfl (sf_stV (l' := (((v2.put v92 ((idx v2.1 v92) + (idx v7_4.1 v92))).1.map e32).map .d)) rfl TT.tyA_65 rfl rfl rfl rfl rfl rfl (len_arr c_18) (spl_arr c_18) ?_)
      refine RK.nil ⟨RecsOK.comp (by rfl), (blN (nrm ?_))⟩
      refine rG ?_
      obtain ⟨c_19, h⟩ := gG h
      refine xs 103 rfl (sf_add (a := v92) (b := (1 : Int)) rfl rfl rfl c_19 ?_)
      refine xm 92 (pI (v92 + (1 : Int))) ?_
      refine XK.nz ?_
      exact ⟨k_14, by omega, ⟨tab [(2, .vptr 0 0), (4, .vptr 1 0), (7, .vptr 2 0), (92, pI (v92 + (1 : Int)))], tabH [.var (((v2.put v92 ((idx v2.1 v92) + (idx v7_4.1 v92))).1.map e32).map .d), .var (((Arr.rep 8 (0 : BitVec 32)).1.map e32).map .d), .var ((v7_4.1.map e32).map .d)], 3, []⟩, View.mk 3 [0, 1, 2] _ _ _ rfl rfl (by decide) (iC (iC (iC (iC trivial)))) (And.intro (by simp only [atH1, rowC, PV.res_d]; rfl) (And.intro (by simp only [atH1, rowC, PV.res_d]; rfl) (And.intro (by simp only [atH1, rowC, PV.res_d]; rfl) trivial))) rfl zL rfl, (v92 + (1 : Int)), (v2.put v92 ((idx v2.1 v92) + (idx v7_4.1 v92))), v7_4, by omega, jG h, rfl⟩
    · replace h := bGF h hb_15
      refine QW.exit zL (thX (thX (exE (nrm ?_))))
      refine sR ?_
      refine XK.as (some 104) rfl rfl (sf_ldV (v := .agg ((v2.1.map e32).map .d)) rfl TT.tyA_66 rfl rfl (ldv_all (by decide)) ⟨.d (.agg (v2.1.map e32)), imp_arr, ?_⟩)
      refine XK.st none rfl rfl (sf_stV (l' := ((v2.1.map e32).map .d)) rfl TT.tyA_66 rfl rfl rfl rfl rfl (len_map2 _) (le_map2 _) (spl_same ((len_map2 _).trans (len_map2 _).symm)) ?_)
      refine XK.nz ?_
      refine QW.ret zL ?_
      obtain rfl := sG h
      exact Ends.one (.inr rfl) rfl (ResIs.cell rfl rfl TT.tyA_66 (ldv_all (by decide))) (toD_agg toDs_map) rfl
inductive C_sum_Of where
  | S
  | L1 (v4_2 : (List UInt8)) (v3_2 : (Arr 8 (BitVec 32)))
  | L2 (v18 : Int) (v3_5 : (Arr 8 (BitVec 32))) (v5 : (Arr 32 UInt8))
noncomputable def step_sum_Of (s0 : (List UInt8)) : C_sum_Of → Option (C_sum_Of ⊕ (Arr 32 UInt8))
  | .S =>
    ((g_sum_first ).bind fun (x_1 : (Arr 8 (BitVec 32))) =>
    ((g_sum_filled s0).bind fun (x_3 : (List UInt8)) =>
    some (.inl (.L1 x_3 x_1))))
  | .L1 v4_2 v3_2 =>
    (bif (!(v4_2 == ([] : List UInt8))) then
    gO (0 ≤ (0 : Int) ∧ (0 : Int) ≤ (64 : Int) ∧ (64 : Int) ≤ (v4_2.length : Int)) (
    ((g_sum_step v3_2 (sub v4_2 (0 : Int) (64 : Int))).bind fun (x_8 : (Arr 8 (BitVec 32))) =>
    gO (0 ≤ (64 : Int) ∧ (64 : Int) ≤ (v4_2.length : Int) ∧ (v4_2.length : Int) ≤ (v4_2.length : Int)) (
    some (.inl (.L1 (sub v4_2 (64 : Int) (v4_2.length : Int)) x_8)))))
    else
    some (.inl (.L2 (0) v3_2 (Arr.rep 32 (0 : UInt8)))))
  | .L2 v18 v3_5 v5 =>
    (bif (decide (v18 < (32 : Int))) then
    gO ((4 : Int) ≠ 0 ∧ inI (v18.tdiv (4 : Int))) (
    gO (0 ≤ (v18.tdiv (4 : Int)) ∧ (v18.tdiv (4 : Int)) < ((8 : Nat) : Int)) (
    gO (inI ((8 : Int) * (v18.tmod (4 : Int)))) (
    gO (inI ((24 : Int) - ((8 : Int) * (v18.tmod (4 : Int))))) (
    gO (0 ≤ ((24 : Int) - ((8 : Int) * (v18.tmod (4 : Int))))) (
    gO (0 ≤ v18 ∧ v18 < ((32 : Nat) : Int)) (
    gO (inI (v18 + (1 : Int))) (
    some (.inl (.L2 (v18 + (1 : Int)) v3_5 (v5.put v18 (u8I ((wshr (idx v3_5.1 (v18.tdiv (4 : Int))) ((24 : Int) - ((8 : Int) * (v18.tmod (4 : Int))))).toNat : Int))))))))))))
    else
    some (.inr v5))
noncomputable def g_sum_Of (s0 : (List UInt8)) : Option (Arr 32 UInt8) := theC (step_sum_Of s0) .S
theorem sim_sum_Of (s0 : (List UInt8)) (r : (Arr 32 UInt8)) (h : g_sum_Of s0 = some r) : Fun Try.prog 15 [.val (sV s0)] (.agg (r.1.map byteD)) := by
  refine Fun.of_bodyQ Try.func15 rfl (by simp [Try.ntmps15]) ?_
  rw [Try.ntmps15, TT.res_15]
  refine QW.view (s' := ⟨tab [(0, pS s0)], tabH [], 0, []⟩) (View.init (by rfl)) zL ?_
  replace h := theC_get h
  obtain ⟨_, h⟩ := h
  obtain ⟨k_0, rfl, h9⟩ := run_succ h; replace h := h9; clear h9; rw [step_sum_Of] at h
  refine sR ?_
  refine xs 2 rfl (sf_alloc (l := (((Arr.rep 32 (0 : UInt8)).1.map byteD).map .d)) rfl TT.zeroA_41 rfl rfl ?_)
  refine XK.nz ?_
  refine sR ?_
  obtain ⟨x_1, hx_2, h⟩ := bG h
  refine xs 7 rfl (sf_call rfl rfl TT.enters_24 rfl (sim_sum_first  _ hx_2) ?_)
  refine xs 3 rfl (sf_alloc (l := (((Arr.rep 8 (0 : BitVec 32)).1.map e32).map .d)) rfl TT.zeroA_66 rfl rfl ?_)
  refine XK.st none rfl rfl (sf_stV (l' := ((x_1.1.map e32).map .d)) rfl TT.tyA_66 rfl rfl rfl rfl rfl (len_map2 _) (le_map2 _) (spl_same ((len_map2 _).trans (len_map2 _).symm)) ?_)
  refine XK.nz ?_
  refine QW.seq ?_
  refine sR ?_
  refine xm 8 (pS s0) ?_
  obtain ⟨x_3, hx_4, h⟩ := bG h
  refine xs 9 rfl (sf_call rfl rfl TT.enters_25 rfl (sim_sum_filled s0 _ hx_4) ?_)
  refine xz 4 (pS x_3) ?_
  refine QW.block ?_
  refine QW.loop (fun k σ => ∃ v4_2 : (List UInt8), ∃ v3_2 : (Arr 8 (BitVec 32)), k ≤ k_0 ∧ run (step_sum_Of s0) k (.L1 v4_2 v3_2) = some r ∧ σ = ⟨tab [(2, .vptr 0 0), (3, .vptr 1 0), (4, pS v4_2)], tabH [.var (((Arr.rep 32 (0 : UInt8)).1.map byteD).map .d), .var ((v3_2.1.map e32).map .d)], 2, []⟩) k_0 zL ⟨⟨tab [(2, .vptr 0 0), (3, .vptr 1 0), (4, pS x_3)], tabH [.var (((Arr.rep 32 (0 : UInt8)).1.map byteD).map .d), .var ((x_1.1.map e32).map .d)], 2, []⟩, View.mk 2 [0, 1] _ _ _ rfl rfl (by decide) (iC (iC (iC trivial))) (And.intro (by simp only [atH1, rowC, PV.res_d]; rfl) (And.intro (by simp only [atH1, rowC, PV.res_d]; rfl) trivial)) rfl zL rfl, x_3, x_1, Nat.le_refl _, jG h, rfl⟩ ?_
  rintro k_5s _ ⟨v4_2, v3_2, k_5h, h, rfl⟩
  obtain ⟨k_5, rfl, h9⟩ := run_succ h; replace h := h9; clear h9; rw [step_sum_Of] at h
  refine QW.seq ?_
  refine sR ?_
  refine xm 10 (pS v4_2) ?_
  refine xs 11 rfl (sf_sne (a := v4_2) (b := ([] : List UInt8)) rfl rfl rfl ?_)
  refine XK.nz ?_
  refine QW.cond (t := (!(v4_2 == ([] : List UInt8)))) rfl zL (fun hb_6 => ?_) (fun hb_6 => ?_)
  · replace h := bGT h hb_6
    refine QW.skip zL (nrm ?_)
    refine QW.seq ?_
    refine QW.block ?_
    refine QW.region zL (PW.regK (id := 5) mixedX (M := _) rfl (by kernel_rfl) ?_)
    refine RK.as (some 14) rfl rfl (sf_ldV (v := .agg ((v3_2.1.map e32).map .d)) rfl TT.tyA_66 rfl rfl (ldv_all (by decide)) ⟨.d (.agg (v3_2.1.map e32)), imp_arr, ?_⟩)
    refine RK.st (some 15) rfl rfl (sf_move (v := pS v4_2) rfl rfl ?_)
    obtain ⟨c_7, h⟩ := gG h
    refine RK.st (some 16) rfl rfl (sf_subS (l := v4_2) (a := (0 : Int)) (b := (64 : Int)) rfl TT.under_9 rfl rfl rfl c_7 ?_)
    obtain ⟨x_8, hx_9, h⟩ := bG h
    refine RK.st (some 17) rfl rfl (sf_call rfl rfl TT.enters_26 rfl (sim_sum_step v3_2 (sub v4_2 (0 : Int) (64 : Int)) _ hx_9) ?_)
    refine RK.st none rfl rfl (sf_stV (l' := ((x_8.1.map e32).map .d)) rfl TT.tyA_66 rfl rfl rfl rfl rfl (len_map2 _) (le_map2 _) (spl_same ((len_map2 _).trans (len_map2 _).symm)) ?_)
    refine RK.nil ⟨RecsOK.comp (by rfl), (blN (nrm ?_))⟩
    refine rG ?_
    refine xm 12 (pS v4_2) ?_
    obtain ⟨c_10, h⟩ := gG h
    refine xs 13 rfl (sf_subS (l := v4_2) (a := (64 : Int)) (b := (v4_2.length : Int)) rfl TT.under_9 rfl rfl rfl c_10 ?_)
    refine xz 4 (pS (sub v4_2 (64 : Int) (v4_2.length : Int))) ?_
    exact ⟨k_5, by omega, ⟨tab [(2, .vptr 0 0), (3, .vptr 1 0), (4, pS (sub v4_2 (64 : Int) (v4_2.length : Int)))], tabH [.var (((Arr.rep 32 (0 : UInt8)).1.map byteD).map .d), .var ((x_8.1.map e32).map .d)], 2, []⟩, View.mk 2 [0, 1] _ _ _ rfl rfl (by decide) (iC (iC (iC trivial))) (And.intro (by simp only [atH1, rowC, PV.res_d]; rfl) (And.intro (by simp only [atH1, rowC, PV.res_d]; rfl) trivial)) rfl zL rfl, (sub v4_2 (64 : Int) (v4_2.length : Int)), x_8, by omega, jG h, rfl⟩
  · replace h := bGF h hb_6
    refine QW.exit zL (thX (thX (exE (nrm ?_))))
    refine sR ?_
    refine xs 5 rfl (sf_alloc (l := (((Arr.rep 32 (0 : UInt8)).1.map byteD).map .d)) rfl TT.zeroA_41 rfl rfl ?_)
    refine XK.nz ?_
    refine QW.seq ?_
    refine sR ?_
    refine xm 18 (pI (0)) ?_
    refine XK.nz ?_
    refine QW.block ?_
    refine QW.loop (fun k σ => ∃ v18 : Int, ∃ v3_5 : (Arr 8 (BitVec 32)), ∃ v5 : (Arr 32 UInt8), k ≤ k_5 ∧ run (step_sum_Of s0) k (.L2 v18 v3_5 v5) = some r ∧ σ = ⟨tab [(2, .vptr 0 0), (3, .vptr 1 0), (5, .vptr 2 0), (18, pI v18)], tabH [.var (((Arr.rep 32 (0 : UInt8)).1.map byteD).map .d), .var ((v3_5.1.map e32).map .d), .var ((v5.1.map byteD).map .d)], 3, []⟩) k_5 zL ⟨⟨tab [(2, .vptr 0 0), (3, .vptr 1 0), (5, .vptr 2 0), (18, pI (0))], tabH [.var (((Arr.rep 32 (0 : UInt8)).1.map byteD).map .d), .var ((v3_2.1.map e32).map .d), .var (((Arr.rep 32 (0 : UInt8)).1.map byteD).map .d)], 3, []⟩, View.mk 3 [0, 1, 2] _ _ _ rfl rfl (by decide) (iC (iC (iC (iC trivial)))) (And.intro (by simp only [atH1, rowC, PV.res_d]; rfl) (And.intro (by simp only [atH1, rowC, PV.res_d]; rfl) (And.intro (by simp only [atH1, rowC, PV.res_d]; rfl) trivial))) rfl zL rfl, 0, v3_2, (Arr.rep 32 (0 : UInt8)), Nat.le_refl _, jG h, rfl⟩ ?_
    rintro k_11s _ ⟨v18, v3_5, v5, k_11h, h, rfl⟩
    obtain ⟨k_11, rfl, h9⟩ := run_succ h; replace h := h9; clear h9; rw [step_sum_Of] at h
    refine sR ?_
    refine xs 19 rfl (sf_lss (a := v18) (b := (32 : Int)) rfl rfl rfl ?_)
    refine XK.nz ?_
    refine QW.seq ?_
    refine QW.cond (t := (decide (v18 < (32 : Int)))) rfl zL (fun hb_12 => ?_) (fun hb_12 => ?_)
    · replace h := bGT h hb_12
      refine QW.skip zL (nrm ?_)
      refine QW.seq ?_
      refine QW.block ?_
      refine sR ?_
      refine xm 20 (pI v18) ?_
      refine xz 6 (pI v18) ?_
      refine rG ?_
      refine xm 21 (pI v18) ?_
      refine xm 22 (pI v18) ?_
      obtain ⟨c_13, h⟩ := gG h
      refine xs 23 rfl (sf_quo (a := v18) (b := (4 : Int)) rfl rfl rfl c_13 ?_)
      obtain ⟨c_14, h⟩ := gG h
      refine xs 24 rfl (sf_idxV (i := (v18.tdiv (4 : Int))) rfl TT.slcA_66 TT.arrA_66 rfl rfl c_14 ?_)
      refine xs 25 rfl (sf_ldV (v := .d (.val (.int .u32 ((idx v3_5.1 (v18.tdiv (4 : Int))).toNat : Int)))) rfl TT.tyA_65 rfl rfl (ldv_arr c_14) ?_)
      refine xm 26 (pI v18) ?_
      refine xs 27 rfl (sf_rem (a := v18) (b := (4 : Int)) rfl rfl rfl (by decide) ?_)
      obtain ⟨c_15, h⟩ := gG h
      refine xs 28 rfl (sf_mul (a := (8 : Int)) (b := (v18.tmod (4 : Int))) rfl rfl rfl c_15 ?_)
      obtain ⟨c_16, h⟩ := gG h
      refine xs 29 rfl (sf_sub (a := (24 : Int)) (b := ((8 : Int) * (v18.tmod (4 : Int)))) rfl rfl rfl c_16 ?_)
      obtain ⟨c_17, h⟩ := gG h
      refine xs 30 rfl (sf_wshr' (a := (idx v3_5.1 (v18.tdiv (4 : Int)))) (c := ((24 : Int) - ((8 : Int) * (v18.tmod (4 : Int))))) rfl rfl rfl c_17 ?_)
      refine xs 31 rfl (sf_toU8 (n := ((wshr (idx v3_5.1 (v18.tdiv (4 : Int))) ((24 : Int) - ((8 : Int) * (v18.tmod (4 : Int))))).toNat : Int)) rfl TT.under_65 TT.under_5 rfl ?_)
      obtain ⟨c_18, h⟩ := gG h
      refine xs 32 rfl (sf_idxV (i := v18) rfl TT.slcA_41 TT.arrA_41 rfl rfl c_18 ?_)
      refine XK.st none rfl rfl (sf_stV (l' := (((v5.put v18 (u8I ((wshr (idx v3_5.1 (v18.tdiv (4 : Int))) ((24 : Int) - ((8 : Int) * (v18.tmod (4 : Int))))).toNat : Int))).1.map byteD).map .d)) rfl TT.tyA_5 rfl rfl rfl rfl rfl rfl (len_arr c_18) (spl_arr c_18) ?_)
      refine XK.nil (blN (nrm ?_))
      refine QW.view (s' := ⟨tab [(2, .vptr 0 0), (3, .vptr 1 0), (5, .vptr 2 0), (18, pI v18)], tabH [.var (((Arr.rep 32 (0 : UInt8)).1.map byteD).map .d), .var ((v3_5.1.map e32).map .d), .var (((v5.put v18 (u8I ((wshr (idx v3_5.1 (v18.tdiv (4 : Int))) ((24 : Int) - ((8 : Int) * (v18.tmod (4 : Int))))).toNat : Int))).1.map byteD).map .d)], 3, []⟩) (View.mk 3 [0, 1, 2] _ _ _ rfl rfl (by decide) (iC (iC (iC (iC trivial)))) (And.intro (by simp only [atH1, rowC, PV.res_d]; rfl) (And.intro (by simp only [atH1, rowC, PV.res_d]; rfl) (And.intro (by simp only [atH1, rowC, PV.res_d]; rfl) trivial))) rfl zL rfl) zL ?_
      refine rG ?_
      obtain ⟨c_19, h⟩ := gG h
      refine xs 33 rfl (sf_add (a := v18) (b := (1 : Int)) rfl rfl rfl c_19 ?_)
      refine xm 18 (pI (v18 + (1 : Int))) ?_
      refine XK.nz ?_
      exact ⟨k_11, by omega, ⟨tab [(2, .vptr 0 0), (3, .vptr 1 0), (5, .vptr 2 0), (18, pI (v18 + (1 : Int)))], tabH [.var (((Arr.rep 32 (0 : UInt8)).1.map byteD).map .d), .var ((v3_5.1.map e32).map .d), .var (((v5.put v18 (u8I ((wshr (idx v3_5.1 (v18.tdiv (4 : Int))) ((24 : Int) - ((8 : Int) * (v18.tmod (4 : Int))))).toNat : Int))).1.map byteD).map .d)], 3, []⟩, View.mk 3 [0, 1, 2] _ _ _ rfl rfl (by decide) (iC (iC (iC (iC trivial)))) (And.intro (by simp only [atH1, rowC, PV.res_d]; rfl) (And.intro (by simp only [atH1, rowC, PV.res_d]; rfl) (And.intro (by simp only [atH1, rowC, PV.res_d]; rfl) trivial))) rfl zL rfl, (v18 + (1 : Int)), v3_5, (v5.put v18 (u8I ((wshr (idx v3_5.1 (v18.tdiv (4 : Int))) ((24 : Int) - ((8 : Int) * (v18.tmod (4 : Int))))).toNat : Int))), by omega, jG h, rfl⟩
    · replace h := bGF h hb_12
      refine QW.exit zL (thX (thX (exE (nrm ?_))))
      refine sR ?_
      refine XK.as (some 34) rfl rfl (sf_ldV (v := .agg ((v5.1.map byteD).map .d)) rfl TT.tyA_41 rfl rfl (ldv_all (by decide)) ⟨.d (.agg (v5.1.map byteD)), imp_arr, ?_⟩)
      refine XK.st none rfl rfl (sf_stV (l' := ((v5.1.map byteD).map .d)) rfl TT.tyA_41 rfl rfl rfl rfl rfl (len_map2 _) (le_map2 _) (spl_same ((len_map2 _).trans (len_map2 _).symm)) ?_)
      refine XK.nz ?_
      refine QW.ret zL ?_
      obtain rfl := sG h
      exact Ends.one (.inr rfl) rfl (ResIs.cell rfl rfl TT.tyA_41 (ldv_all (by decide))) (toD_agg toDs_map) rfl
end Go.Proofs.Ythpgedneniekmaa.K
