/- Package wide: what it reckons. -/
import Derived.Test.YthpgedneniekmaaAKO
import Derived.Test.YthpgedneniekmaaRows
import Derived.KernelRfl
namespace Go.Proofs.Ythpgedneniekmaa.K
open Go Go.RowKit
set_option linter.unusedSimpArgs false
set_option linter.unusedVariables false
set_option maxRecDepth 20000
set_option maxHeartbeats 4000000
namespace TT
theorem arrA_106 : arrA Try.prog 106 = some (8, 1, false) := by kernel_rfl
theorem arrA_9 : arrA Try.prog 9 = none := by kernel_rfl
theorem bldA_109 : bldA Try.prog 109 = some ([Value.string ⟨#[]⟩, Value.int IntKind.i64 0], .inl [(0, 1), (1, 1)]) := by kernel_rfl
theorem enters_32 : entersB Try.prog 32 = true := by kernel_rfl
theorem enters_33 : entersB Try.prog 33 = true := by kernel_rfl
theorem enters_58 : entersB Try.prog 58 = true := by kernel_rfl
theorem enters_59 : entersB Try.prog 59 = true := by kernel_rfl
theorem enters_71 : entersB Try.prog 71 = true := by kernel_rfl
theorem fldA_109_0 : fldA Try.prog 109 0 = some (0, 1, false) := by kernel_rfl
theorem fldA_109_1 : fldA Try.prog 109 1 = some (1, 1, false) := by kernel_rfl
theorem res_18 : Try.f18.results.toList = [.tmp 2] := rfl
theorem res_32 : Try.f32.results.toList = [.tmp 4] := rfl
theorem res_33 : Try.f33.results.toList = [] := rfl
theorem res_34 : Try.f34.results.toList = [.tmp 2] := rfl
theorem res_35 : Try.f35.results.toList = [.tmp 2] := rfl
theorem res_36 : Try.f36.results.toList = [.tmp 2] := rfl
theorem res_37 : Try.f37.results.toList = [.tmp 2] := rfl
theorem res_58 : Try.f58.results.toList = [.tmp 4] := rfl
theorem res_59 : Try.f59.results.toList = [.tmp 4] := rfl
theorem res_71 : Try.f71.results.toList = [.tmp 2] := rfl
theorem rowA_78 : rowA Try.prog 78 = some (1, 1) := by kernel_rfl
theorem slcA_106 : slcA Try.prog 106 = none := by kernel_rfl
theorem slcA_56 : slcA Try.prog 56 = some (1, 16, false) := by kernel_rfl
theorem tyA_31 : tyA Try.prog 31 = some (false, 1) := by kernel_rfl
theorem tyA_5 : tyA Try.prog 5 = some (false, 1) := by kernel_rfl
theorem tyA_78 : tyA Try.prog 78 = some (false, 1) := by kernel_rfl
theorem tyA_9 : tyA Try.prog 9 = some (false, 1) := by kernel_rfl
theorem under_3 : Program.underlying Try.prog 3 = some (.int .i64) := by kernel_rfl
theorem under_5 : Program.underlying Try.prog 5 = some (.int .u8) := by kernel_rfl
theorem under_56 : Program.underlying Try.prog 56 = some (.slice 9) := by kernel_rfl
theorem under_77 : Program.underlying Try.prog 77 = some (.int .u64) := by kernel_rfl
theorem under_78 : Program.underlying Try.prog 78 = some (.slice 5) := by kernel_rfl
theorem under_80 : Program.underlying Try.prog 80 = some (.pointer 109) := by kernel_rfl
theorem under_9 : Program.underlying Try.prog 9 = some (.string) := by kernel_rfl
theorem zeroA_106 : zeroA Try.prog 106 = some [Value.int IntKind.u8 0, Value.int IntKind.u8 0, Value.int IntKind.u8 0, Value.int IntKind.u8 0, Value.int IntKind.u8 0, Value.int IntKind.u8 0, Value.int IntKind.u8 0, Value.int IntKind.u8 0] := by kernel_rfl
theorem zeroA_78 : zeroA Try.prog 78 = some [Value.slice none 0 0] := by kernel_rfl
end TT
theorem mixedX : Try.prog.follows .mixedOrders = true := by kernel_rfl
structure Row where
  fSum : (Arr 32 UInt8)
  fEpoch : Int
  fBody : (List UInt8)
  deriving Inhabited
def cRow (x : Row) : List D := ((x.fSum).1.map byteD) ++ [.val (.int .i64 (x.fEpoch)), .val (sV (x.fBody))]
def eRow (x : Row) : D := .agg (cRow x)
theorem eRow_eq (x : Row) : eRow x = .agg (cRow x) := rfl
theorem lay_Row : Lay eRow cRow 34 := ⟨fun _ => rfl, fun x => by simp [cRow, x.fSum.2]⟩
theorem ldc_Row_0 (x : Row) : LdC true 32 ((cRow x).drop 0) (.agg ((x.fSum).1.map byteD)) := ldc_first (show ((x.fSum).1.map byteD).length = 32 by rw [List.length_map, x.fSum.2])
theorem pre_Row_0 (x : Row) : Pre ((cRow x).drop 0) byteD x.fSum := pre_first
theorem spl_Row_0 (x : Row) (v : (Arr 32 UInt8)) : spl ((cRow x).map PV.d) 0 ((v.1.map byteD).map PV.d) = (cRow { x with fSum := v }).map PV.d := spl_first (show ((x.fSum).1.map byteD).length = 32 by rw [List.length_map, x.fSum.2]) (show (v.1.map byteD).length = 32 by rw [List.length_map, v.2])
theorem ldc_Row_1 (x : Row) : LdC false 1 ((cRow x).drop 32) (.val (.int .i64 (x.fEpoch))) := ldc_skip 32 0 (show ((x.fSum).1.map byteD).length = 32 by rw [List.length_map, x.fSum.2]) (LdC.one)
theorem spl_Row_1 (x : Row) (v : Int) : spl ((cRow x).map PV.d) 32 [PV.d (.val (.int .i64 v))] = (cRow { x with fEpoch := v }).map PV.d := spl_skip 32 0 (show ((x.fSum).1.map byteD).length = 32 by rw [List.length_map, x.fSum.2]) rfl
theorem ldc_Row_2 (x : Row) : LdC false 1 ((cRow x).drop 33) (.val (sV (x.fBody))) := ldc_skip 32 1 (show ((x.fSum).1.map byteD).length = 32 by rw [List.length_map, x.fSum.2]) (LdC.one)
theorem spl_Row_2 (x : Row) (v : (List UInt8)) : spl ((cRow x).map PV.d) 33 [PV.d (.val (sV v))] = (cRow { x with fBody := v }).map PV.d := spl_skip 32 1 (show ((x.fSum).1.map byteD).length = 32 by rw [List.length_map, x.fSum.2]) rfl
theorem flat_Row (x : Row) : ∀ d ∈ cRow x, d.flat = true := (flat_app (flat_arr _ (fun _ => rfl)) (flat_cons rfl (flat_cons rfl flat_nil)))
structure Index where
  fpages : (List (List Row))
  deriving Inhabited
def cIndex (x : Index) : List D := ([.slice ((x.fpages).map (eL eRow))])
structure DB where
  fIndex : Index
  deriving Inhabited
def cDB (x : DB) : List D := ([.slice (((x.fIndex).fpages).map (eL eRow))])
structure Cut where
  fs : (List UInt8)
  fe : Int
  deriving Inhabited
structure Act where
  fKind : Int
  fEpoch : Int
  fS : (List UInt8)
  deriving Inhabited
def cAct (x : Act) : List D := [.val (.int .i64 (x.fKind)), .val (.int .i64 (x.fEpoch)), .val (sV (x.fS))]
def eAct (x : Act) : D := .agg (cAct x)
theorem eAct_eq (x : Act) : eAct x = .agg (cAct x) := rfl
theorem lay_Act : Lay eAct cAct 3 := ⟨fun _ => rfl, fun _ => rfl⟩
inductive C_wide_Num where
  | S
  | L1 (n0_2 : (BitVec 64)) (v12 : Int) (v5 : (Arr 8 UInt8))
noncomputable def step_wide_Num (n0 : (BitVec 64)) (bytes1 : Int) : C_wide_Num → Option (C_wide_Num ⊕ (List UInt8))
  | .S =>
    some (.inl (.L1 n0 (0) (Arr.rep 8 (0 : UInt8))))
  | .L1 n0_2 v12 v5 =>
    (bif (decide (v12 < (minI (maxI bytes1 (0 : Int)) (8 : Int)))) then
    gO (0 ≤ v12 ∧ v12 < ((8 : Nat) : Int)) (
    gO (inI (v12 + (1 : Int))) (
    some (.inl (.L1 (wshr n0_2 (8 : Int)) (v12 + (1 : Int)) (v5.put v12 (u8I (n0_2.toNat : Int)))))))
    else
    gO (0 ≤ (0 : Int) ∧ (0 : Int) ≤ (minI (maxI bytes1 (0 : Int)) (8 : Int)) ∧ (minI (maxI bytes1 (0 : Int)) (8 : Int)) ≤ ((8 : Nat) : Int)) (
    some (.inr (sub v5.1 0 (minI (maxI bytes1 (0 : Int)) (8 : Int))))))
noncomputable def g_wide_Num (n0 : (BitVec 64)) (bytes1 : Int) : Option (List UInt8) := theC (step_wide_Num n0 bytes1) .S
theorem sim_wide_Num (n0 : (BitVec 64)) (bytes1 : Int) (r : (List UInt8)) (h : g_wide_Num n0 bytes1 = some r) : Fun Try.prog 32 [.val (.int .u64 (n0.toNat : Int)), .val (.int .i64 bytes1)] (.val (sV r)) := by
  refine Fun.of_bodyQ Try.func32 rfl (by simp [Try.ntmps32]) ?_
  rw [Try.ntmps32, TT.res_32]
  refine QW.view (s' := ⟨tab [(0, .d (.val (.int .u64 (n0.toNat : Int)))), (1, pI bytes1)], tabH [], 0, []⟩) (View.init (by rfl)) zL ?_
  replace h := theC_get h
  obtain ⟨_, h⟩ := h
  obtain ⟨k_0, rfl, h9⟩ := run_succ h; replace h := h9; clear h9; rw [step_wide_Num] at h
  refine sR ?_
  refine xz 4 (pS ([] : List UInt8)) ?_
  refine sR ?_
  refine xs 5 rfl (sf_alloc (l := (((Arr.rep 8 (0 : UInt8)).1.map byteD).map .d)) rfl TT.zeroA_106 rfl rfl ?_)
  refine XK.nz ?_
  refine sR ?_
  refine xm 8 (pI bytes1) ?_
  refine xs 9 rfl (sf_max (a := bytes1) (b := (0 : Int)) rfl rfl rfl ?_)
  refine xs 10 rfl (sf_min (a := (maxI bytes1 (0 : Int))) (b := (8 : Int)) rfl rfl rfl ?_)
  refine xz 6 (pI (minI (maxI bytes1 (0 : Int)) (8 : Int))) ?_
  refine QW.seq ?_
  refine sR ?_
  refine xm 11 (pI (minI (maxI bytes1 (0 : Int)) (8 : Int))) ?_
  refine xm 12 (pI (0)) ?_
  refine XK.nz ?_
  refine QW.block ?_
  refine QW.loop (fun k σ => ∃ n0_2 : (BitVec 64), ∃ v12 : Int, ∃ v5 : (Arr 8 UInt8), k ≤ k_0 ∧ run (step_wide_Num n0 bytes1) k (.L1 n0_2 v12 v5) = some r ∧ σ = ⟨tab [(0, .d (.val (.int .u64 (n0_2.toNat : Int)))), (5, .vptr 0 0), (6, pI (minI (maxI bytes1 (0 : Int)) (8 : Int))), (11, pI (minI (maxI bytes1 (0 : Int)) (8 : Int))), (12, pI v12)], tabH [.var ((v5.1.map byteD).map .d)], 1, []⟩) k_0 zL ⟨⟨tab [(0, .d (.val (.int .u64 (n0.toNat : Int)))), (5, .vptr 0 0), (6, pI (minI (maxI bytes1 (0 : Int)) (8 : Int))), (11, pI (minI (maxI bytes1 (0 : Int)) (8 : Int))), (12, pI (0))], tabH [.var (((Arr.rep 8 (0 : UInt8)).1.map byteD).map .d)], 1, []⟩, View.mk 1 [0] _ _ _ rfl rfl (by decide) (iC (iC (iC (iC (iC trivial))))) (And.intro (by simp only [atH1, rowC, PV.res_d]; rfl) trivial) rfl zL rfl, n0, 0, (Arr.rep 8 (0 : UInt8)), Nat.le_refl _, jG h, rfl⟩ ?_
  rintro k_1s _ ⟨n0_2, v12, v5, k_1h, h, rfl⟩
  obtain ⟨k_1, rfl, h9⟩ := run_succ h; replace h := h9; clear h9; rw [step_wide_Num] at h
  refine sR ?_
  refine xs 13 rfl (sf_lss (a := v12) (b := (minI (maxI bytes1 (0 : Int)) (8 : Int))) rfl rfl rfl ?_)
  refine XK.nz ?_
  refine QW.seq ?_
  refine QW.cond (t := (decide (v12 < (minI (maxI bytes1 (0 : Int)) (8 : Int))))) rfl zL (fun hb_2 => ?_) (fun hb_2 => ?_)
  · replace h := bGT h hb_2
    refine QW.skip zL (nrm ?_)
    refine QW.seq ?_
    refine QW.block ?_
    refine sR ?_
    refine xm 14 (pI v12) ?_
    refine xz 7 (pI v12) ?_
    refine sR ?_
    refine xm 15 (pI v12) ?_
    refine xm 16 (.d (.val (.int .u64 (n0_2.toNat : Int)))) ?_
    refine xs 17 rfl (sf_toU8 (n := (n0_2.toNat : Int)) rfl TT.under_77 TT.under_5 rfl ?_)
    obtain ⟨c_3, h⟩ := gG h
    refine xs 18 rfl (sf_idxV (i := v12) rfl TT.slcA_106 TT.arrA_106 rfl rfl c_3 ?_)
    refine XK.st none rfl rfl (sf_stV (l' := (((v5.put v12 (u8I (n0_2.toNat : Int))).1.map byteD).map .d)) rfl TT.tyA_5 rfl rfl rfl rfl rfl rfl (len_arr c_3) (spl_arr c_3) ?_)
    refine XK.nz ?_
    refine rG ?_
    refine xm 19 (.d (.val (.int .u64 (n0_2.toNat : Int)))) ?_
    refine xs 20 rfl (sf_wshr' (a := n0_2) (c := (8 : Int)) rfl rfl rfl (by decide) ?_)
    refine xa 0 (.d (.val (.int .u64 ((wshr n0_2 (8 : Int)).toNat : Int)))) ?_
    refine XK.nil (blN (nrm ?_))
    refine rG ?_
    obtain ⟨c_4, h⟩ := gG h
    refine xs 21 rfl (sf_add (a := v12) (b := (1 : Int)) rfl rfl rfl c_4 ?_)
    refine xm 12 (pI (v12 + (1 : Int))) ?_
    refine XK.nz ?_
    exact ⟨k_1, by omega, ⟨tab [(0, .d (.val (.int .u64 ((wshr n0_2 (8 : Int)).toNat : Int)))), (5, .vptr 0 0), (6, pI (minI (maxI bytes1 (0 : Int)) (8 : Int))), (11, pI (minI (maxI bytes1 (0 : Int)) (8 : Int))), (12, pI (v12 + (1 : Int)))], tabH [.var (((v5.put v12 (u8I (n0_2.toNat : Int))).1.map byteD).map .d)], 1, []⟩, View.mk 1 [0] _ _ _ rfl rfl (by decide) (iC (iC (iC (iC (iC trivial))))) (And.intro (by simp only [atH1, rowC, PV.res_d]; rfl) trivial) rfl zL rfl, (wshr n0_2 (8 : Int)), (v12 + (1 : Int)), (v5.put v12 (u8I (n0_2.toNat : Int))), by omega, jG h, rfl⟩
  · replace h := bGF h hb_2
    refine QW.exit zL (thX (thX (exE (nrm ?_))))
    refine sR ?_
    refine xm 22 (pI (minI (maxI bytes1 (0 : Int)) (8 : Int))) ?_
    obtain ⟨c_5, h⟩ := gG h
    refine XK.so (some 23) rfl rfl (so_slV (p := (0 : Int)) (q := (minI (maxI bytes1 (0 : Int)) (8 : Int))) rfl TT.arrA_106 rfl rfl rfl c_5 ?_)
    refine XK.so (some 24) rfl rfl (so_v2s (bs := (sub v5.1 0 (minI (maxI bytes1 (0 : Int)) (8 : Int)))) rfl TT.under_78 TT.under_5 TT.under_9 rfl rfl (v2s_arr (a := v5) c_5) (v2s_arrL (a := v5) c_5) ?_)
    refine xz 4 (pS (sub v5.1 0 (minI (maxI bytes1 (0 : Int)) (8 : Int)))) ?_
    refine QW.ret zL ?_
    obtain rfl := sG h
    exact Ends.one (.inr rfl) rfl (ResIs.tmp rfl) rfl rfl
noncomputable def g_wide_Texts_1 (s0 : (List UInt8)) (v1 : (List UInt8)) : Option (Unit × (List UInt8)) :=
    ((g_wide_Num (BitVec.ofInt 64 (s0.length : Int)) (4)).bind fun (x_1 : (List UInt8)) =>
    gO ((v1.length + x_1.length) * 1 ≤ 140737488355328) (
    gO (((v1 ++ x_1).length + s0.length) * 1 ≤ 140737488355328) (
    some ((), ((v1 ++ x_1) ++ s0)))))
theorem sim_wide_Texts_1 (s0 : (List UInt8)) (v1 : (List UInt8)) (r : (Unit × (List UInt8))) (h : g_wide_Texts_1 s0 v1 = some r) : Spec Try.prog 33 [pS s0, .vptr 0 0] (tabH [.var [.own 1 (v1.map byteD)], .spare 1 v1.length]) 2 (postX (.ret (.tuple [])) (tabH [.var [.own 2 ((r.2).map byteD)], .dead, .spare 1 (r.2).length]) 3) := by
  refine Spec.of_bodyS Try.func33 rfl (by simp [Try.ntmps33]) bL ?_
  rw [Try.ntmps33, TT.res_33]
  refine QW.view (s' := ⟨tab [(0, pS s0), (1, .vptr 0 0)], tabH [.var [.own 1 (v1.map byteD)], .spare 1 v1.length], 2, []⟩) (View.initP bL (by rfl)) bL ?_
  unfold g_wide_Texts_1 at h
  refine QW.region bL (PW.regK (id := 0) mixedX (M := _) rfl (by kernel_rfl) ?_)
  refine RK.st (some 3) rfl rfl (sf_ldV (v := .own 1 (v1.map byteD)) rfl TT.tyA_78 rfl rfl ⟨⟨by simp, by simp⟩, rfl⟩ ?_)
  refine RK.st (some 4) rfl rfl (sf_move (v := pS s0) rfl rfl ?_)
  refine RK.st (some 5) rfl rfl (sf_lenS (l := s0) rfl TT.under_9 rfl ?_)
  refine RK.st (some 6) rfl rfl (sf_toW (n := (s0.length : Int)) rfl TT.under_3 TT.under_77 rfl ?_)
  obtain ⟨x_1, hx_2, h⟩ := bO h
  refine RK.st (some 7) rfl rfl (sf_call rfl rfl TT.enters_32 rfl (sim_wide_Num (BitVec.ofInt 64 (s0.length : Int)) (4) _ hx_2) ?_)
  obtain ⟨c_3, h⟩ := gO_get h
  refine RK.st (some 8) rfl rfl (sf_appO (en := byteD) (l := v1) (l2 := x_1) rfl TT.rowA_78 TT.under_9 rfl lay_byte rfl rfl rfl c_3 (by decide) ?_)
  refine RK.st (some 9) rfl rfl (sf_move (v := pS s0) rfl rfl ?_)
  obtain ⟨c_4, h⟩ := gO_get h
  refine RK.st (some 10) rfl rfl (sf_appO (en := byteD) (l := (v1 ++ x_1)) (l2 := s0) rfl TT.rowA_78 TT.under_9 rfl lay_byte rfl rfl rfl c_4 (by decide) ?_)
  refine RK.st none rfl rfl (sf_stV (l' := [.own 3 (((v1 ++ x_1) ++ s0).map byteD)]) rfl TT.tyA_78 rfl rfl rfl rfl rfl rfl (by simp) rfl ?_)
  refine RK.nil ⟨RecsOK.comp (by rfl), ?_⟩
  obtain rfl := sO h
  exact EndsS.none (s' := ⟨tab [], tabH [.var [.own 2 (((v1 ++ x_1) ++ s0).map byteD)], .dead, .spare 1 ((v1 ++ x_1) ++ s0).length], 3, []⟩) (.inl rfl) (View.mk 3 [0, 1, 3] _ _ _ rfl rfl (by decide) trivial (And.intro rfl (And.intro trivial (And.intro rfl trivial))) rfl bL rfl) rfl bL (fun i hi => tabH_app [.var [.own 2 (((v1 ++ x_1) ++ s0).map byteD)], .dead, .spare 1 ((v1 ++ x_1) ++ s0).length] [] i hi) rfl (by simp [HO.idsLts, HO.idsLt, PV.idsLts, PV.idsLt, idsLts_d, rowC])
inductive C_wide_Texts where
  | S
  | L1 (v10 : Int) (v3_0 : (List UInt8))
noncomputable def step_wide_Texts (l0 : (List (List UInt8))) : C_wide_Texts → Option (C_wide_Texts ⊕ (List UInt8))
  | .S =>
    some (.inl (.L1 (0) ([] : (List UInt8))))
  | .L1 v10 v3_0 =>
    (bif (decide (v10 < (l0.length : Int))) then
    gO (0 ≤ v10 ∧ v10 < (l0.length : Int)) (
    ((g_wide_Texts_1 (idx l0 v10) v3_0).bind fun (q_6 : (Unit × (List UInt8))) =>
    gO (inI (v10 + (1 : Int))) (
    some (.inl (.L1 (v10 + (1 : Int)) (q_6.2))))))
    else
    some (.inr v3_0))
noncomputable def g_wide_Texts (l0 : (List (List UInt8))) : Option (List UInt8) := theC (step_wide_Texts l0) .S
theorem sim_wide_Texts (l0 : (List (List UInt8))) (r : (List UInt8)) (h : g_wide_Texts l0 = some r) : Fun Try.prog 18 [.slice (l0.map eS)] (.val (sV r)) := by
  refine Fun.of_bodyQ Try.func18 rfl (by simp [Try.ntmps18]) ?_
  rw [Try.ntmps18, TT.res_18]
  refine QW.view (s' := ⟨tab [(0, .d (.slice (l0.map eS)))], tabH [], 0, []⟩) (View.init (by rfl)) zL ?_
  replace h := theC_get h
  obtain ⟨_, h⟩ := h
  obtain ⟨k_0, rfl, h9⟩ := run_succ h; replace h := h9; clear h9; rw [step_wide_Texts] at h
  refine sR ?_
  refine xz 2 (pS ([] : List UInt8)) ?_
  refine sR ?_
  refine xs 3 rfl (sf_alloc (l := [.full (([] : (List UInt8)).map byteD)]) rfl TT.zeroA_78 rfl rfl ?_)
  refine XK.nz ?_
  refine QW.seq ?_
  refine QW.view (View.bufV 0 0 1 rfl rfl zL) zL ?_
  refine rG ?_
  refine xs 7 rfl (sf_func rfl rfl ?_)
  refine xz 4 (.clo 33 [.vptr 0 0]) ?_
  refine QW.seq ?_
  refine sR ?_
  refine xm 8 (.d (.slice (l0.map eS))) ?_
  refine xs 9 rfl (sf_lenL (en := eS) (l := l0) rfl TT.under_56 rfl ?_)
  refine xm 10 (pI (0)) ?_
  refine XK.nz ?_
  refine QW.block ?_
  refine QW.loop (fun k σ => ∃ v10 : Int, ∃ v3_0 : (List UInt8), k ≤ k_0 ∧ run (step_wide_Texts l0) k (.L1 v10 v3_0) = some r ∧ σ = ⟨tab [(3, .vptr 0 0), (4, .clo 33 [.vptr 0 0]), (8, .d (.slice (l0.map eS))), (9, pI (l0.length : Int)), (10, pI v10)], tabH [.var [.own 1 (v3_0.map byteD)], .spare 1 v3_0.length], 2, []⟩) k_0 zL ⟨⟨tab [(3, .vptr 0 0), (4, .clo 33 [.vptr 0 0]), (8, .d (.slice (l0.map eS))), (9, pI (l0.length : Int)), (10, pI (0))], tabH [.var [.own 1 (([] : (List UInt8)).map byteD)], .spare 1 ([] : (List UInt8)).length], 2, []⟩, View.mk 2 [0, 1] _ _ _ rfl rfl (by decide) (iC (iC (iC (iC (iC trivial))))) (And.intro rfl (And.intro rfl trivial)) rfl zL rfl, 0, ([] : (List UInt8)), Nat.le_refl _, jG h, rfl⟩ ?_
  rintro k_1s _ ⟨v10, v3_0, k_1h, h, rfl⟩
  obtain ⟨k_1, rfl, h9⟩ := run_succ h; replace h := h9; clear h9; rw [step_wide_Texts] at h
  refine sR ?_
  refine xs 11 rfl (sf_lss (a := v10) (b := (l0.length : Int)) rfl rfl rfl ?_)
  refine XK.nz ?_
  refine QW.seq ?_
  refine QW.cond (t := (decide (v10 < (l0.length : Int)))) rfl zL (fun hb_2 => ?_) (fun hb_2 => ?_)
  · replace h := bGT h hb_2
    refine QW.skip zL (nrm ?_)
    refine QW.seq ?_
    refine QW.block ?_
    refine sR ?_
    obtain ⟨c_3, h⟩ := gG h
    refine xs 12 rfl (sf_idxA (l := l0) (i := v10) rfl TT.slcA_56 lay_S rfl rfl c_3 ?_)
    refine xs 13 rfl (sf_ldC (d := .val (sV (idx l0 v10))) rfl TT.tyA_9 rfl (LdC.one) ?_)
    refine xz 6 (pS (idx l0 v10)) ?_
    refine rG ?_
    refine xm 14 (.clo 33 [.vptr 0 0]) ?_
    refine xm 15 (pS (idx l0 v10)) ?_
    obtain ⟨q_6, hx_5, h⟩ := bG h
    refine XK.fr (p := .tuple []) (H2 := putH (putH (putH _ 2 (some (.spare 1 (q_6.2).length))) 1 none) 0 (some (.var [.own 2 ((q_6.2).map byteD)]))) (nx2 := 3) (some 16) rfl rfl (xclo_frame [0, 1] rfl rfl rfl TT.enters_33 (sim_wide_Texts_1 (idx l0 v10) v3_0 _ hx_5) rfl rfl (by decide) (And.intro rfl (And.intro rfl trivial)) bL) rfl rfl rfl ?_
    refine XK.nil (blN (nrm ?_))
    refine rG ?_
    obtain ⟨c_7, h⟩ := gG h
    refine xs 17 rfl (sf_add (a := v10) (b := (1 : Int)) rfl rfl rfl c_7 ?_)
    refine xm 10 (pI (v10 + (1 : Int))) ?_
    refine XK.nz ?_
    exact ⟨k_1, by omega, ⟨tab [(3, .vptr 0 0), (4, .clo 33 [.vptr 0 0]), (8, .d (.slice (l0.map eS))), (9, pI (l0.length : Int)), (10, pI (v10 + (1 : Int)))], tabH [.var [.own 1 ((q_6.2).map byteD)], .spare 1 (q_6.2).length], 2, []⟩, View.mk 2 [0, 2] _ _ _ rfl rfl (by decide) (iC (iC (iC (iC (iC trivial))))) (And.intro rfl (And.intro rfl trivial)) rfl zL rfl, (v10 + (1 : Int)), (q_6.2), by omega, jG h, rfl⟩
  · replace h := bGF h hb_2
    refine QW.exit zL (thX (thX (exE (nrm ?_))))
    refine sR ?_
    refine xs 18 rfl (sf_ldV (v := .own 1 (v3_0.map byteD)) rfl TT.tyA_78 rfl rfl ⟨⟨by simp, by simp⟩, rfl⟩ ?_)
    refine xs 19 rfl (sf_b2s (l := v3_0) rfl TT.under_78 TT.under_5 TT.under_9 rfl ?_)
    refine xz 2 (pS v3_0) ?_
    refine QW.ret zL ?_
    obtain rfl := sG h
    exact Ends.one (.inr rfl) rfl (ResIs.tmp rfl) rfl rfl
noncomputable def g_wide_On (s0 : (List UInt8)) : Option Cut :=
    some (⟨s0, 0⟩ : Cut)
theorem sim_wide_On (s0 : (List UInt8)) (r : Cut) (h : g_wide_On s0 = some r) : Spec Try.prog 34 [pS s0] (tabH []) 0 (postX (.ret (.vptr 0 0)) (tabH [.var [pS (r.fs), pI (r.fe)]]) 1) := by
  refine Spec.of_bodyS Try.func34 rfl (by simp [Try.ntmps34]) bL ?_
  rw [Try.ntmps34, TT.res_34]
  refine QW.view (s' := ⟨tab [(0, pS s0)], tabH [], 0, []⟩) (View.initP zL (by rfl)) zL ?_
  unfold g_wide_On at h
  refine sR ?_
  refine xz 2 (.d (.val (.pointer none))) ?_
  refine sR ?_
  refine xm 3 (pS s0) ?_
  refine xs 4 rfl (sf_bld (v := .agg [pS s0, pI (0)]) rfl TT.bldA_109 (build_of rfl (fill_step (cells' := [pS s0, pI (0)]) rfl rfl rfl bL rfl fill_nil)) ?_)
  refine xs 5 rfl (sf_boxV (c := [pS s0, pI (0)]) rfl rfl rfl rfl rfl ?_)
  refine xz 2 (.vptr 0 0) ?_
  refine QW.ret zL ?_
  obtain rfl := sO h
  exact EndsS.one (s' := ⟨tab [(2, .vptr 0 0)], tabH [.var [pS s0, pI (0)]], 1, []⟩) (.inr rfl) (View.mk 1 [0] _ _ _ rfl rfl (by decide) (iC trivial) (And.intro rfl trivial) rfl zL rfl) rfl bL (fun i hi => tabH_app [.var [pS s0, pI (0)]] [] i hi) rfl (by simp [HO.idsLts, HO.idsLt, PV.idsLts, PV.idsLt, idsLts_d, rowC]) (ResIs.tmp rfl) (by simp [PV.idsLts, PV.idsLt, idsLts_d])
noncomputable def g_wide_Cut_Rest (c0 : Cut) : Option ((List UInt8) × Cut) :=
    some (c0.fs, c0)
theorem sim_wide_Cut_Rest (c0 : Cut) (r : ((List UInt8) × Cut)) (h : g_wide_Cut_Rest c0 = some r) : Spec Try.prog 35 [.vptr 0 0] (tabH [.var [pS (c0.fs), pI (c0.fe)]]) 1 (postX (.ret (pS (r.1))) (tabH [.var [pS ((r.2).fs), pI ((r.2).fe)]]) 1) := by
  refine Spec.of_bodyS Try.func35 rfl (by simp [Try.ntmps35]) bL ?_
  rw [Try.ntmps35, TT.res_35]
  refine QW.view (s' := ⟨tab [(0, .vptr 0 0)], tabH [.var [pS (c0.fs), pI (c0.fe)]], 1, []⟩) (View.initP bL (by rfl)) bL ?_
  unfold g_wide_Cut_Rest at h
  refine sRb ?_
  refine xz 2 (pS ([] : List UInt8)) ?_
  refine QW.seq ?_
  refine sRb ?_
  refine xm 3 (.vptr 0 0) ?_
  refine xs 4 rfl (sf_vnil rfl (.inl ⟨rfl, rfl⟩) TT.under_80 rfl rfl ?_)
  refine XK.nz ?_
  refine QW.condF rfl ?_
  refine QW.skip bL (nrm ?_)
  refine sRb ?_
  refine xm 5 (.vptr 0 0) ?_
  refine xs 6 rfl (sf_nilCheck (v := .vptr 0 0) rfl rfl rfl ?_)
  refine xs 7 rfl (sf_fldV rfl TT.fldA_109_0 (by decide) rfl ?_)
  refine xs 8 rfl (sf_ldV (v := pS (c0.fs)) rfl TT.tyA_9 rfl rfl ⟨⟨by simp, by simp⟩, rfl⟩ ?_)
  refine xz 2 (pS (c0.fs)) ?_
  refine QW.ret bL ?_
  obtain rfl := sO h
  exact EndsS.one (s' := ⟨tab [(2, pS (c0.fs))], tabH [.var [pS (c0.fs), pI (c0.fe)]], 1, []⟩) (.inr rfl) (View.mk 1 [0] _ _ _ rfl rfl (by decide) (iC trivial) (And.intro rfl trivial) rfl bL rfl) rfl bL (fun i hi => tabH_app [.var [pS (c0.fs), pI (c0.fe)]] [] i hi) rfl (by simp [HO.idsLts, HO.idsLt, PV.idsLts, PV.idsLt, idsLts_d, rowC]) (ResIs.tmp rfl) (by simp [PV.idsLts, PV.idsLt, idsLts_d])
noncomputable def g_wide_Cut_Take (n1 : Int) (c0 : Cut) : Option ((List UInt8) × Cut) :=
    (bif (!decide ((c0.fe) = (0 : Int))) then
    some (([] : List UInt8), c0)
    else
    (bif ((decide (n1 < (0 : Int))) || (decide (((c0.fs).length : Int) < n1))) then
    some (([] : List UInt8), (⟨([] : List UInt8), 5⟩ : Cut))
    else
    gO (0 ≤ (0 : Int) ∧ (0 : Int) ≤ n1 ∧ n1 ≤ ((c0.fs).length : Int)) (
    gO (0 ≤ n1 ∧ n1 ≤ ((c0.fs).length : Int) ∧ ((c0.fs).length : Int) ≤ ((c0.fs).length : Int)) (
    some ((sub (c0.fs) (0 : Int) n1), (⟨(sub (c0.fs) n1 ((c0.fs).length : Int)), c0.fe⟩ : Cut))))))
theorem sim_wide_Cut_Take (n1 : Int) (c0 : Cut) (r : ((List UInt8) × Cut)) (h : g_wide_Cut_Take n1 c0 = some r) : Spec Try.prog 58 [.vptr 0 0, pI n1] (tabH [.var [pS (c0.fs), pI (c0.fe)]]) 1 (postX (.ret (pS (r.1))) (tabH [.var [pS ((r.2).fs), pI ((r.2).fe)]]) 1) := by
  refine Spec.of_bodyS Try.func58 rfl (by simp [Try.ntmps58]) bL ?_
  rw [Try.ntmps58, TT.res_58]
  refine QW.view (s' := ⟨tab [(0, .vptr 0 0), (1, pI n1)], tabH [.var [pS (c0.fs), pI (c0.fe)]], 1, []⟩) (View.initP bL (by rfl)) bL ?_
  unfold g_wide_Cut_Take at h
  refine sRb ?_
  refine xz 4 (pS ([] : List UInt8)) ?_
  refine QW.seq ?_
  refine sRb ?_
  refine xm 6 (.vptr 0 0) ?_
  refine xs 7 rfl (sf_vnil rfl (.inl ⟨rfl, rfl⟩) TT.under_80 rfl rfl ?_)
  refine xm 8 (pB false) ?_
  refine XK.oa (v := .vptr 0 0) (T := []) (some 9) rfl rfl (sf_move (v := .vptr 0 0) rfl rfl g3) ?_
  refine XK.oa (v := .vptr 0 0) (T := []) (some 10) rfl rfl (sf_nilCheck (v := .vptr 0 0) rfl rfl rfl g3) ?_
  refine XK.oa (v := .vptr 0 1) (T := []) (some 11) rfl rfl (sf_fldV rfl TT.fldA_109_1 (by decide) rfl g3) ?_
  refine XK.oa (v := pI (c0.fe)) (T := [0]) (some 12) rfl rfl (sf_ldV (v := pI (c0.fe)) rfl TT.tyA_31 rfl rfl ⟨⟨by simp, by simp⟩, rfl⟩ g3) ?_
  refine XK.oa (v := pB (!decide ((c0.fe) = (0 : Int)))) (T := []) (some 13) rfl rfl (sf_ne (a := (c0.fe)) (b := (0 : Int)) rfl rfl rfl g3) ?_
  refine xs 14 rfl (sf_pickF rfl rfl rfl rfl rfl rfl ?_)
  refine XK.nz ?_
  refine QW.cond (t := (!decide ((c0.fe) = (0 : Int)))) rfl bL (fun hb_1 => ?_) (fun hb_1 => ?_)
  · replace h := bT h hb_1
    refine sRb ?_
    refine xz 4 (pS ([] : List UInt8)) ?_
    refine QW.ret bL (thR ?_)
    obtain rfl := sO h
    exact EndsS.one (s' := ⟨tab [(4, pS ([] : List UInt8))], tabH [.var [pS (c0.fs), pI (c0.fe)]], 1, []⟩) (.inr rfl) (View.mk 1 [0] _ _ _ rfl rfl (by decide) (iC trivial) (And.intro rfl trivial) rfl bL rfl) rfl bL (fun i hi => tabH_app [.var [pS (c0.fs), pI (c0.fe)]] [] i hi) rfl (by simp [HO.idsLts, HO.idsLt, PV.idsLts, PV.idsLt, idsLts_d, rowC]) (ResIs.tmp rfl) (by simp [PV.idsLts, PV.idsLt, idsLts_d])
  · replace h := bF h hb_1
    refine QW.skip bL (nrm ?_)
    refine QW.seq ?_
    refine sRb ?_
    refine xm 15 (pI n1) ?_
    refine xs 16 rfl (sf_lss (a := n1) (b := (0 : Int)) rfl rfl rfl ?_)
    refine xm 17 (pB (decide (n1 < (0 : Int)))) ?_
    refine xg 18 (pI n1) rfl rfl (fun hg => sf_move (v := pI n1) rfl rfl g3) ?_
    refine xg 19 (.vptr 0 0) rfl rfl (fun hg => sf_move (v := .vptr 0 0) rfl rfl g3) ?_
    refine xg 20 (.vptr 0 0) rfl rfl (fun hg => sf_nilCheck (v := .vptr 0 0) rfl rfl rfl g3) ?_
    refine xg 21 (.vptr 0 0) rfl rfl (fun hg => sf_fldV rfl TT.fldA_109_0 (by decide) rfl g3) ?_
    refine XK.gd (v := pS (c0.fs)) (T := [0]) (some 22) rfl rfl (by repeat (first | exact trivial | refine ⟨fun q => by first | rfl | exact q | exact cda q | exact cdb q, ?_⟩)) (fun hg => sf_ldV (v := pS (c0.fs)) rfl TT.tyA_9 rfl rfl ⟨⟨by simp, by simp⟩, rfl⟩ g3) (fun _ i hi => by simp only [List.mem_singleton] at hi; subst hi; decide) ?_
    refine xg 23 (pI ((c0.fs).length : Int)) rfl rfl (fun hg => sf_lenS (l := c0.fs) rfl TT.under_9 rfl g3) ?_
    refine xg 24 (pB (decide (((c0.fs).length : Int) < n1))) rfl rfl (fun hg => sf_gtr (a := n1) (b := ((c0.fs).length : Int)) rfl rfl rfl g3) ?_
    refine xs 25 rfl (sf_pickO rfl rfl rfl rfl (fun _ => rfl) (fun hb => by rw [hb]; rfl) ?_)
    refine XK.nz ?_
    refine QW.cond (t := ((decide (n1 < (0 : Int))) || (decide (((c0.fs).length : Int) < n1)))) rfl bL (fun hb_2 => ?_) (fun hb_2 => ?_)
    · replace h := bT h hb_2
      refine sRb ?_
      refine xm 26 (.vptr 0 0) ?_
      refine xm 27 (.vptr 0 0) ?_
      refine xs 28 rfl (sf_nilCheck (v := .vptr 0 0) rfl rfl rfl ?_)
      refine xs 29 rfl (sf_fldV rfl TT.fldA_109_0 (by decide) rfl ?_)
      refine XK.st none rfl rfl (sf_stV (l' := [pS ([] : List UInt8), pI (c0.fe)]) rfl TT.tyA_9 rfl rfl rfl rfl rfl rfl (by simp) rfl ?_)
      refine xs 30 rfl (sf_nilCheck (v := .vptr 0 0) rfl rfl rfl ?_)
      refine xs 31 rfl (sf_fldV rfl TT.fldA_109_1 (by decide) rfl ?_)
      refine XK.st none rfl rfl (sf_stV (l' := [pS ([] : List UInt8), pI (5)]) rfl TT.tyA_31 rfl rfl rfl rfl rfl rfl (by simp) rfl ?_)
      refine XK.nz ?_
      refine sRb ?_
      refine xz 4 (pS ([] : List UInt8)) ?_
      refine QW.ret bL (thR ?_)
      obtain rfl := sO h
      exact EndsS.one (s' := ⟨tab [(4, pS ([] : List UInt8))], tabH [.var [pS ([] : List UInt8), pI (5)]], 1, []⟩) (.inr rfl) (View.mk 1 [0] _ _ _ rfl rfl (by decide) (iC trivial) (And.intro rfl trivial) rfl bL rfl) rfl bL (fun i hi => tabH_app [.var [pS ([] : List UInt8), pI (5)]] [] i hi) rfl (by simp [HO.idsLts, HO.idsLt, PV.idsLts, PV.idsLt, idsLts_d, rowC]) (ResIs.tmp rfl) (by simp [PV.idsLts, PV.idsLt, idsLts_d])
    · replace h := bF h hb_2
      refine QW.skip bL (nrm ?_)
      refine sRb ?_
      refine xm 32 (.vptr 0 0) ?_
      refine xs 33 rfl (sf_nilCheck (v := .vptr 0 0) rfl rfl rfl ?_)
      refine xs 34 rfl (sf_fldV rfl TT.fldA_109_0 (by decide) rfl ?_)
      refine xs 35 rfl (sf_ldV (v := pS (c0.fs)) rfl TT.tyA_9 rfl rfl ⟨⟨by simp, by simp⟩, rfl⟩ ?_)
      refine xm 36 (pI n1) ?_
      obtain ⟨c_3, h⟩ := gO_get h
      refine xs 37 rfl (sf_subS (l := c0.fs) (a := (0 : Int)) (b := n1) rfl TT.under_9 rfl rfl rfl c_3 ?_)
      refine xz 5 (pS (sub (c0.fs) (0 : Int) n1)) ?_
      refine sRb ?_
      refine xm 38 (.vptr 0 0) ?_
      refine xm 39 (.vptr 0 0) ?_
      refine xs 40 rfl (sf_nilCheck (v := .vptr 0 0) rfl rfl rfl ?_)
      refine xs 41 rfl (sf_fldV rfl TT.fldA_109_0 (by decide) rfl ?_)
      refine xs 42 rfl (sf_ldV (v := pS (c0.fs)) rfl TT.tyA_9 rfl rfl ⟨⟨by simp, by simp⟩, rfl⟩ ?_)
      refine xm 43 (pI n1) ?_
      obtain ⟨c_4, h⟩ := gO_get h
      refine xs 44 rfl (sf_subS (l := c0.fs) (a := n1) (b := ((c0.fs).length : Int)) rfl TT.under_9 rfl rfl rfl c_4 ?_)
      refine xs 45 rfl (sf_nilCheck (v := .vptr 0 0) rfl rfl rfl ?_)
      refine xs 46 rfl (sf_fldV rfl TT.fldA_109_0 (by decide) rfl ?_)
      refine XK.st none rfl rfl (sf_stV (l' := [pS (sub (c0.fs) n1 ((c0.fs).length : Int)), pI (c0.fe)]) rfl TT.tyA_9 rfl rfl rfl rfl rfl rfl (by simp) rfl ?_)
      refine XK.nz ?_
      refine QW.seq ?_
      refine QW.view (s' := ⟨tab [(5, pS (sub (c0.fs) (0 : Int) n1))], tabH [.var [pS (sub (c0.fs) n1 ((c0.fs).length : Int)), pI (c0.fe)]], 1, []⟩) (View.mk 1 [0] _ _ _ rfl rfl (by decide) (iC trivial) (And.intro rfl trivial) rfl bL rfl) bL ?_
      refine rGb ?_
      refine xm 47 (pS (sub (c0.fs) (0 : Int) n1)) ?_
      refine xz 4 (pS (sub (c0.fs) (0 : Int) n1)) ?_
      refine QW.ret bL ?_
      obtain rfl := sO h
      exact EndsS.one (s' := ⟨tab [(4, pS (sub (c0.fs) (0 : Int) n1))], tabH [.var [pS (sub (c0.fs) n1 ((c0.fs).length : Int)), pI (c0.fe)]], 1, []⟩) (.inr rfl) (View.mk 1 [0] _ _ _ rfl rfl (by decide) (iC trivial) (And.intro rfl trivial) rfl bL rfl) rfl bL (fun i hi => tabH_app [.var [pS (sub (c0.fs) n1 ((c0.fs).length : Int)), pI (c0.fe)]] [] i hi) rfl (by simp [HO.idsLts, HO.idsLt, PV.idsLts, PV.idsLt, idsLts_d, rowC]) (ResIs.tmp rfl) (by simp [PV.idsLts, PV.idsLt, idsLts_d])
inductive C_wide_Val where
  | S
  | L1 (v3 : (BitVec 64)) (v4 : Int)
noncomputable def step_wide_Val (s0 : (List UInt8)) : C_wide_Val → Option (C_wide_Val ⊕ (BitVec 64))
  | .S =>
    gO (inI ((minI (s0.length : Int) (8 : Int)) - (1 : Int))) (
    some (.inl (.L1 (0 : BitVec 64) ((minI (s0.length : Int) (8 : Int)) - (1 : Int)))))
  | .L1 v3 v4 =>
    (bif (decide ((0 : Int) ≤ v4)) then
    gO (0 ≤ v4 ∧ v4 < (s0.length : Int)) (
    gO (inI (v4 - (1 : Int))) (
    some (.inl (.L1 ((wshl v3 (8 : Int)) ||| (BitVec.ofInt 64 ((idx s0 v4).toNat : Int))) (v4 - (1 : Int))))))
    else
    some (.inr v3))
noncomputable def g_wide_Val (s0 : (List UInt8)) : Option (BitVec 64) := theC (step_wide_Val s0) .S
theorem sim_wide_Val (s0 : (List UInt8)) (r : (BitVec 64)) (h : g_wide_Val s0 = some r) : Fun Try.prog 71 [.val (sV s0)] (.val (.int .u64 (r.toNat : Int))) := by
  refine Fun.of_bodyQ Try.func71 rfl (by simp [Try.ntmps71]) ?_
  rw [Try.ntmps71, TT.res_71]
  refine QW.view (s' := ⟨tab [(0, pS s0)], tabH [], 0, []⟩) (View.init (by rfl)) zL ?_
  replace h := theC_get h
  obtain ⟨_, h⟩ := h
  obtain ⟨k_0, rfl, h9⟩ := run_succ h; replace h := h9; clear h9; rw [step_wide_Val] at h
  refine sR ?_
  refine xz 2 (.d (.val (.int .u64 ((0 : BitVec 64).toNat : Int)))) ?_
  refine sR ?_
  refine xz 3 (.d (.val (.int .u64 ((0 : BitVec 64).toNat : Int)))) ?_
  refine QW.seq ?_
  refine sR ?_
  refine xm 5 (pS s0) ?_
  refine xs 6 rfl (sf_lenS (l := s0) rfl TT.under_9 rfl ?_)
  refine xs 7 rfl (sf_min (a := (s0.length : Int)) (b := (8 : Int)) rfl rfl rfl ?_)
  obtain ⟨c_1, h⟩ := gG h
  refine xs 8 rfl (sf_sub (a := (minI (s0.length : Int) (8 : Int))) (b := (1 : Int)) rfl rfl rfl c_1 ?_)
  refine xz 4 (pI ((minI (s0.length : Int) (8 : Int)) - (1 : Int))) ?_
  refine QW.block ?_
  refine QW.loop (fun k σ => ∃ v3 : (BitVec 64), ∃ v4 : Int, k ≤ k_0 ∧ run (step_wide_Val s0) k (.L1 v3 v4) = some r ∧ σ = ⟨tab [(0, pS s0), (3, .d (.val (.int .u64 (v3.toNat : Int)))), (4, pI v4)], tabH [], 0, []⟩) k_0 zL ⟨⟨tab [(0, pS s0), (3, .d (.val (.int .u64 ((0 : BitVec 64).toNat : Int)))), (4, pI ((minI (s0.length : Int) (8 : Int)) - (1 : Int)))], tabH [], 0, []⟩, View.mk 0 [] _ _ _ rfl rfl (by decide) (iC (iC (iC trivial))) trivial rfl zL rfl, (0 : BitVec 64), ((minI (s0.length : Int) (8 : Int)) - (1 : Int)), Nat.le_refl _, jG h, rfl⟩ ?_
  rintro k_2s _ ⟨v3, v4, k_2h, h, rfl⟩
  obtain ⟨k_2, rfl, h9⟩ := run_succ h; replace h := h9; clear h9; rw [step_wide_Val] at h
  refine QW.seq ?_
  refine sR ?_
  refine xm 9 (pI v4) ?_
  refine xs 10 rfl (sf_geq (a := v4) (b := (0 : Int)) rfl rfl rfl ?_)
  refine XK.nz ?_
  refine QW.cond (t := (decide ((0 : Int) ≤ v4))) rfl zL (fun hb_3 => ?_) (fun hb_3 => ?_)
  · replace h := bGT h hb_3
    refine QW.skip zL (nrm ?_)
    refine QW.seq ?_
    refine QW.block ?_
    refine rG ?_
    refine xm 13 (.d (.val (.int .u64 (v3.toNat : Int)))) ?_
    refine xs 14 rfl (sf_wshl' (a := v3) (c := (8 : Int)) rfl rfl rfl (by decide) ?_)
    refine xm 15 (pS s0) ?_
    refine xm 16 (pI v4) ?_
    obtain ⟨c_4, h⟩ := gG h
    refine xs 17 rfl (sf_idxS (l := s0) (i := v4) rfl TT.under_9 TT.arrA_9 rfl rfl c_4 ?_)
    refine xs 18 rfl (sf_toW (n := ((idx s0 v4).toNat : Int)) rfl TT.under_5 TT.under_77 rfl ?_)
    refine xs 19 rfl (sf_wor' (a := (wshl v3 (8 : Int))) (b := (BitVec.ofInt 64 ((idx s0 v4).toNat : Int))) rfl rfl rfl ?_)
    refine xa 3 (.d (.val (.int .u64 (((wshl v3 (8 : Int)) ||| (BitVec.ofInt 64 ((idx s0 v4).toNat : Int))).toNat : Int)))) ?_
    refine XK.nil (blN (nrm ?_))
    refine rG ?_
    refine xm 11 (pI v4) ?_
    obtain ⟨c_5, h⟩ := gG h
    refine xs 12 rfl (sf_sub (a := v4) (b := (1 : Int)) rfl rfl rfl c_5 ?_)
    refine xz 4 (pI (v4 - (1 : Int))) ?_
    exact ⟨k_2, by omega, ⟨tab [(0, pS s0), (3, .d (.val (.int .u64 (((wshl v3 (8 : Int)) ||| (BitVec.ofInt 64 ((idx s0 v4).toNat : Int))).toNat : Int)))), (4, pI (v4 - (1 : Int)))], tabH [], 0, []⟩, View.mk 0 [] _ _ _ rfl rfl (by decide) (iC (iC (iC trivial))) trivial rfl zL rfl, ((wshl v3 (8 : Int)) ||| (BitVec.ofInt 64 ((idx s0 v4).toNat : Int))), (v4 - (1 : Int)), by omega, jG h, rfl⟩
  · replace h := bGF h hb_3
    refine QW.exit zL (thX (thX (exE (nrm ?_))))
    refine sR ?_
    refine xm 20 (.d (.val (.int .u64 (v3.toNat : Int)))) ?_
    refine xz 2 (.d (.val (.int .u64 (v3.toNat : Int)))) ?_
    refine QW.ret zL ?_
    obtain rfl := sG h
    exact Ends.one (.inr rfl) rfl (ResIs.tmp rfl) rfl rfl
noncomputable def g_wide_Cut_Num (bytes1 : Int) (c0 : Cut) : Option ((BitVec 64) × Cut) :=
    (((bif ((decide (bytes1 < (1 : Int))) || (decide ((8 : Int) < bytes1))) then
    some (-1)
    else
    some bytes1) : Option Int).bind fun (bytes1_2 : Int) =>
    ((g_wide_Cut_Take bytes1_2 c0).bind fun (q_4 : ((List UInt8) × Cut)) =>
    ((g_wide_Val (q_4.1)).bind fun (x_5 : (BitVec 64)) =>
    some (x_5, (q_4.2)))))
theorem sim_wide_Cut_Num (bytes1 : Int) (c0 : Cut) (r : ((BitVec 64) × Cut)) (h : g_wide_Cut_Num bytes1 c0 = some r) : Spec Try.prog 59 [.vptr 0 0, pI bytes1] (tabH [.var [pS (c0.fs), pI (c0.fe)]]) 1 (postX (.ret (.d (.val (.int .u64 ((r.1).toNat : Int))))) (tabH [.var [pS ((r.2).fs), pI ((r.2).fe)]]) 1) := by
  refine Spec.of_bodyS Try.func59 rfl (by simp [Try.ntmps59]) bL ?_
  rw [Try.ntmps59, TT.res_59]
  refine QW.view (s' := ⟨tab [(0, .vptr 0 0), (1, pI bytes1)], tabH [.var [pS (c0.fs), pI (c0.fe)]], 1, []⟩) (View.initP bL (by rfl)) bL ?_
  unfold g_wide_Cut_Num at h
  refine sRb ?_
  refine xz 4 (.d (.val (.int .u64 ((0 : BitVec 64).toNat : Int)))) ?_
  obtain ⟨bytes1_2, hq, h⟩ := bO h
  refine QW.seqI (fun s' => s' = ⟨tab [(0, .vptr 0 0), (1, pI bytes1_2)], tabH [.var [pS (c0.fs), pI (c0.fe)]], 1, []⟩) ?_ ?_
  · replace h := hq; clear hq
    refine sRb ?_
    refine xm 5 (pI bytes1) ?_
    refine xs 6 rfl (sf_lss (a := bytes1) (b := (1 : Int)) rfl rfl rfl ?_)
    refine xm 7 (pB (decide (bytes1 < (1 : Int)))) ?_
    refine xg 8 (pI bytes1) rfl rfl (fun hg => sf_move (v := pI bytes1) rfl rfl g3) ?_
    refine xg 9 (pB (decide ((8 : Int) < bytes1))) rfl rfl (fun hg => sf_gtr (a := bytes1) (b := (8 : Int)) rfl rfl rfl g3) ?_
    refine xs 10 rfl (sf_pickO rfl rfl rfl rfl (fun _ => rfl) (fun hb => by rw [hb]; rfl) ?_)
    refine XK.nz ?_
    refine QW.cond (t := ((decide (bytes1 < (1 : Int))) || (decide ((8 : Int) < bytes1)))) rfl bL (fun hb_1 => ?_) (fun hb_1 => ?_)
    · replace h := bT h hb_1
      refine rGb ?_
      refine xz 1 (pI (-1)) ?_
      obtain rfl := sO h
      exact ⟨⟨tab [(0, .vptr 0 0), (1, pI (-1))], tabH [.var [pS (c0.fs), pI (c0.fe)]], 1, []⟩, View.mk 1 [0] _ _ _ rfl rfl (by decide) (iC (iC trivial)) (And.intro rfl trivial) rfl bL rfl, rfl⟩
    · replace h := bF h hb_1
      refine QW.skip bL (nrm ?_)
      obtain rfl := sO h
      exact ⟨⟨tab [(0, .vptr 0 0), (1, pI bytes1)], tabH [.var [pS (c0.fs), pI (c0.fe)]], 1, []⟩, View.mk 1 [0] _ _ _ rfl rfl (by decide) (iC (iC trivial)) (And.intro rfl trivial) rfl bL rfl, rfl⟩
  · rintro _ rfl
    refine sRb ?_
    refine xm 11 (.vptr 0 0) ?_
    refine xm 12 (pI bytes1_2) ?_
    obtain ⟨q_4, hx_3, h⟩ := bO h
    refine XK.fr (p := pS (q_4.1)) (H2 := putH _ 0 (some (.var [pS ((q_4.2).fs), pI ((q_4.2).fe)]))) (nx2 := 1) (some 13) rfl rfl (xcall_frame [0] rfl rfl TT.enters_58 (sim_wide_Cut_Take bytes1_2 c0 _ hx_3) rfl rfl (by decide) (And.intro rfl trivial) bL) rfl rfl rfl ?_
    obtain ⟨x_5, hx_6, h⟩ := bO h
    refine xs 14 rfl (sf_call rfl rfl TT.enters_71 rfl (sim_wide_Val (q_4.1) _ hx_6) ?_)
    refine xz 4 (.d (.val (.int .u64 (x_5.toNat : Int)))) ?_
    refine QW.ret bL ?_
    obtain rfl := sO h
    exact EndsS.one (s' := ⟨tab [(4, .d (.val (.int .u64 (x_5.toNat : Int))))], tabH [.var [pS ((q_4.2).fs), pI ((q_4.2).fe)]], 1, []⟩) (.inr rfl) (View.mk 1 [0] _ _ _ rfl rfl (by decide) (iC trivial) (And.intro rfl trivial) rfl bL rfl) rfl bL (fun i hi => tabH_app [.var [pS ((q_4.2).fs), pI ((q_4.2).fe)]] [] i hi) rfl (by simp [HO.idsLts, HO.idsLt, PV.idsLts, PV.idsLt, idsLts_d, rowC]) (ResIs.tmp rfl) (by simp [PV.idsLts, PV.idsLt, idsLts_d])
noncomputable def g_wide_Cut_Text (c0 : Cut) : Option ((List UInt8) × Cut) :=
    ((g_wide_Cut_Num (4) c0).bind fun (q_3 : ((BitVec 64) × Cut)) =>
    gO (inI ((q_3.1).toNat : Int)) (
    ((g_wide_Cut_Take ((q_3.1).toNat : Int) (q_3.2)).bind fun (q_7 : ((List UInt8) × Cut)) =>
    some ((q_7.1), (q_7.2)))))
theorem sim_wide_Cut_Text (c0 : Cut) (r : ((List UInt8) × Cut)) (h : g_wide_Cut_Text c0 = some r) : Spec Try.prog 36 [.vptr 0 0] (tabH [.var [pS (c0.fs), pI (c0.fe)]]) 1 (postX (.ret (pS (r.1))) (tabH [.var [pS ((r.2).fs), pI ((r.2).fe)]]) 1) := by
  refine Spec.of_bodyS Try.func36 rfl (by simp [Try.ntmps36]) bL ?_
  rw [Try.ntmps36, TT.res_36]
  refine QW.view (s' := ⟨tab [(0, .vptr 0 0)], tabH [.var [pS (c0.fs), pI (c0.fe)]], 1, []⟩) (View.initP bL (by rfl)) bL ?_
  unfold g_wide_Cut_Text at h
  refine sRb ?_
  refine xz 2 (pS ([] : List UInt8)) ?_
  refine sRb ?_
  refine xm 3 (.vptr 0 0) ?_
  refine xm 4 (.vptr 0 0) ?_
  obtain ⟨q_3, hx_2, h⟩ := bO h
  refine XK.fr (p := .d (.val (.int .u64 ((q_3.1).toNat : Int)))) (H2 := putH _ 0 (some (.var [pS ((q_3.2).fs), pI ((q_3.2).fe)]))) (nx2 := 1) (some 5) rfl rfl (xcall_frame [0] rfl rfl TT.enters_59 (sim_wide_Cut_Num (4) c0 _ hx_2) rfl rfl (by decide) (And.intro rfl trivial) bL) rfl rfl rfl ?_
  obtain ⟨c_4, h⟩ := gO_get h
  refine xs 6 rfl (sf_toI (n := ((q_3.1).toNat : Int)) rfl TT.under_77 TT.under_3 rfl c_4 ?_)
  obtain ⟨q_7, hx_6, h⟩ := bO h
  refine XK.fr (p := pS (q_7.1)) (H2 := putH _ 0 (some (.var [pS ((q_7.2).fs), pI ((q_7.2).fe)]))) (nx2 := 1) (some 7) rfl rfl (xcall_frame [0] rfl rfl TT.enters_58 (sim_wide_Cut_Take ((q_3.1).toNat : Int) (q_3.2) _ hx_6) rfl rfl (by decide) (And.intro rfl trivial) bL) rfl rfl rfl ?_
  refine xz 2 (pS (q_7.1)) ?_
  refine QW.ret bL ?_
  obtain rfl := sO h
  exact EndsS.one (s' := ⟨tab [(2, pS (q_7.1))], tabH [.var [pS ((q_7.2).fs), pI ((q_7.2).fe)]], 1, []⟩) (.inr rfl) (View.mk 1 [0] _ _ _ rfl rfl (by decide) (iC trivial) (And.intro rfl trivial) rfl bL rfl) rfl bL (fun i hi => tabH_app [.var [pS ((q_7.2).fs), pI ((q_7.2).fe)]] [] i hi) rfl (by simp [HO.idsLts, HO.idsLt, PV.idsLts, PV.idsLt, idsLts_d, rowC]) (ResIs.tmp rfl) (by simp [PV.idsLts, PV.idsLt, idsLts_d])
noncomputable def g_wide_Cut_Err (c0 : Cut) : Option (Int × Cut) :=
    some (c0.fe, c0)
theorem sim_wide_Cut_Err (c0 : Cut) (r : (Int × Cut)) (h : g_wide_Cut_Err c0 = some r) : Spec Try.prog 37 [.vptr 0 0] (tabH [.var [pS (c0.fs), pI (c0.fe)]]) 1 (postX (.ret (pI (r.1))) (tabH [.var [pS ((r.2).fs), pI ((r.2).fe)]]) 1) := by
  refine Spec.of_bodyS Try.func37 rfl (by simp [Try.ntmps37]) bL ?_
  rw [Try.ntmps37, TT.res_37]
  refine QW.view (s' := ⟨tab [(0, .vptr 0 0)], tabH [.var [pS (c0.fs), pI (c0.fe)]], 1, []⟩) (View.initP bL (by rfl)) bL ?_
  unfold g_wide_Cut_Err at h
  refine sRb ?_
  refine xz 2 (pI (0)) ?_
  refine QW.seq ?_
  refine sRb ?_
  refine xm 3 (.vptr 0 0) ?_
  refine xs 4 rfl (sf_vnil rfl (.inl ⟨rfl, rfl⟩) TT.under_80 rfl rfl ?_)
  refine XK.nz ?_
  refine QW.condF rfl ?_
  refine QW.skip bL (nrm ?_)
  refine sRb ?_
  refine xm 5 (.vptr 0 0) ?_
  refine xs 6 rfl (sf_nilCheck (v := .vptr 0 0) rfl rfl rfl ?_)
  refine xs 7 rfl (sf_fldV rfl TT.fldA_109_1 (by decide) rfl ?_)
  refine xs 8 rfl (sf_ldV (v := pI (c0.fe)) rfl TT.tyA_31 rfl rfl ⟨⟨by simp, by simp⟩, rfl⟩ ?_)
  refine xz 2 (pI (c0.fe)) ?_
  refine QW.ret bL ?_
  obtain rfl := sO h
  exact EndsS.one (s' := ⟨tab [(2, pI (c0.fe))], tabH [.var [pS (c0.fs), pI (c0.fe)]], 1, []⟩) (.inr rfl) (View.mk 1 [0] _ _ _ rfl rfl (by decide) (iC trivial) (And.intro rfl trivial) rfl bL rfl) rfl bL (fun i hi => tabH_app [.var [pS (c0.fs), pI (c0.fe)]] [] i hi) rfl (by simp [HO.idsLts, HO.idsLt, PV.idsLts, PV.idsLt, idsLts_d, rowC]) (ResIs.tmp rfl) (by simp [PV.idsLts, PV.idsLt, idsLts_d])
end Go.Proofs.Ythpgedneniekmaa.K
