/- Package rlp: what it reckons. -/
import Derived.Test.YtonlehebfeilmaaK38
import Derived.Test.YtonlehebfeilmaaD1
import Derived.KernelRfl
namespace Go.Proofs.Ytonlehebfeilmaa.K
open Go Go.RowKit
set_option linter.unusedSimpArgs false
set_option linter.unusedVariables false
namespace TT
theorem arrA_9 : arrA Try.prog 9 = none := by kernel_rfl
theorem bldA_176 : bldA Try.prog 176 = some ([Value.int IntKind.i64 0], .inl [(0, 1)]) := by kernel_rfl
theorem bldA_80 : bldA Try.prog 80 = some ([Value.bool false, Value.string ⟨#[]⟩, Value.slice none 0 0], .inl [(0, 1), (1, 1), (2, 1)]) := by kernel_rfl
theorem enters_104 : entersB Try.prog 104 = true := by kernel_rfl
theorem enters_105 : entersB Try.prog 105 = true := by kernel_rfl
theorem enters_107 : entersB Try.prog 107 = true := by kernel_rfl
theorem enters_128 : entersB Try.prog 128 = true := by kernel_rfl
theorem enters_129 : entersB Try.prog 129 = true := by kernel_rfl
theorem enters_130 : entersB Try.prog 130 = true := by kernel_rfl
theorem enters_142 : entersB Try.prog 142 = true := by kernel_rfl
theorem enters_143 : entersB Try.prog 143 = true := by kernel_rfl
theorem enters_144 : entersB Try.prog 144 = true := by kernel_rfl
theorem enters_64 : entersB Try.prog 64 = true := by kernel_rfl
theorem enters_66 : entersB Try.prog 66 = true := by kernel_rfl
theorem enters_68 : entersB Try.prog 68 = true := by kernel_rfl
theorem fldA_162_0 : fldA Try.prog 162 0 = some (0, 1, false) := by kernel_rfl
theorem fldA_176_0 : fldA Try.prog 176 0 = some (0, 1, false) := by kernel_rfl
theorem fldA_80_0 : fldA Try.prog 80 0 = some (0, 1, false) := by kernel_rfl
theorem fldA_80_1 : fldA Try.prog 80 1 = some (1, 1, false) := by kernel_rfl
theorem fldA_80_2 : fldA Try.prog 80 2 = some (2, 1, false) := by kernel_rfl
theorem ifaceOK_176 : ifaceOK Try.prog 176 = true := by kernel_rfl
theorem res_102 : Try.f102.results.toList = [.tmp 2, .cell 3 42] := rfl
theorem res_103 : Try.f103.results.toList = [.cell 2 80, .tmp 3] := rfl
theorem res_104 : Try.f104.results.toList = [.cell 2 80, .tmp 3, .cell 4 42] := rfl
theorem res_105 : Try.f105.results.toList = [.tmp 2] := rfl
theorem res_107 : Try.f107.results.toList = [.tmp 6] := rfl
theorem res_128 : Try.f128.results.toList = [] := rfl
theorem res_129 : Try.f129.results.toList = [.tmp 6] := rfl
theorem res_130 : Try.f130.results.toList = [.cell 6 80, .tmp 7] := rfl
theorem res_142 : Try.f142.results.toList = [] := rfl
theorem res_143 : Try.f143.results.toList = [] := rfl
theorem res_144 : Try.f144.results.toList = [.tmp 4, .tmp 5] := rfl
theorem res_64 : Try.f64.results.toList = [.tmp 4] := rfl
theorem res_66 : Try.f66.results.toList = [.tmp 4] := rfl
theorem res_68 : Try.f68.results.toList = [.cell 2 80] := rfl
theorem res_69 : Try.f69.results.toList = [.cell 2 80] := rfl
theorem rowA_37 : rowA Try.prog 37 = some (1, 1) := by kernel_rfl
theorem rowA_78 : rowA Try.prog 78 = some (3, 48) := by kernel_rfl
theorem slcA_78 : slcA Try.prog 78 = some (3, 48, true) := by kernel_rfl
theorem tyA_176 : tyA Try.prog 176 = some (true, 1) := by kernel_rfl
theorem tyA_3 : tyA Try.prog 3 = some (false, 1) := by kernel_rfl
theorem tyA_4 : tyA Try.prog 4 = some (false, 1) := by kernel_rfl
theorem tyA_42 : tyA Try.prog 42 = some (false, 1) := by kernel_rfl
theorem tyA_78 : tyA Try.prog 78 = some (false, 1) := by kernel_rfl
theorem tyA_80 : tyA Try.prog 80 = some (true, 3) := by kernel_rfl
theorem tyA_9 : tyA Try.prog 9 = some (false, 1) := by kernel_rfl
theorem under_20 : Program.underlying Try.prog 20 = some (.interface #[]) := by kernel_rfl
theorem under_3 : Program.underlying Try.prog 3 = some (.int .i64) := by kernel_rfl
theorem under_37 : Program.underlying Try.prog 37 = some (.slice 5) := by kernel_rfl
theorem under_4 : Program.underlying Try.prog 4 = some (.bool) := by kernel_rfl
theorem under_5 : Program.underlying Try.prog 5 = some (.int .u8) := by kernel_rfl
theorem under_78 : Program.underlying Try.prog 78 = some (.slice 80) := by kernel_rfl
theorem under_9 : Program.underlying Try.prog 9 = some (.string) := by kernel_rfl
theorem zeroA_162 : zeroA Try.prog 162 = some [Value.int IntKind.i64 0] := by kernel_rfl
theorem zeroA_176 : zeroA Try.prog 176 = some [Value.int IntKind.i64 0] := by kernel_rfl
theorem zeroA_42 : zeroA Try.prog 42 = some [Value.int IntKind.i64 0] := by kernel_rfl
theorem zeroA_80 : zeroA Try.prog 80 = some [Value.bool false, Value.string ⟨#[]⟩, Value.slice none 0 0] := by kernel_rfl
end TT
noncomputable def g_rlp_must (so0 : Bool) (e1 : Int) : Option (Unit ⊕ Int) :=
    (bif (!so0) then
    some (.inr e1)
    else
    some (.inl ()))

set_option maxRecDepth 20000 in
set_option maxHeartbeats 4000000 in
theorem sim_rlp_must (so0 : Bool) (e1 : Int) (r : (Unit ⊕ Int)) (h : g_rlp_must so0 e1 = some r) : Spec Try.prog 143 [.d (.val (.bool so0)), .d (.val (.int .i64 e1))] (tabH []) 0 (postX (match r with | .inl x => Out.ret (.tuple []) | .inr e => Out.pan (.d (.iface 176 (.agg [.val (.int .i64 e)])))) (tabH []) 0) := by
  refine Spec.of_bodyS Try.func143 rfl (by simp [Try.ntmps143]) (Nat.le_refl _) ?_
  rw [Try.ntmps143, TT.res_143]
  refine QW.view (s' := ⟨tab [(0, .d (.val (.bool so0))), (1, .d (.val (.int .i64 e1)))], tabH [], 0, []⟩) (View.initP (Nat.zero_le _) (by rfl)) (Nat.zero_le _) ?_
  unfold g_rlp_must at h
  refine QW.seq ?_
  refine QW.region (Nat.zero_le _) (PW.regT (by kernel_rfl) ?_)
  refine XK.st (some 4) rfl rfl (sf_move (v := .d (.val (.bool so0))) rfl rfl ?_)
  refine XK.st (some 5) rfl rfl (sf_not rfl rfl ?_)
  refine XK.nil (nrm ?_)
  refine QW.cond (t := (!so0)) rfl (Nat.zero_le _) (fun hb1 => ?_) (fun hb1 => ?_)
  · replace h := bT h hb1
    refine QW.region (Nat.zero_le _) (PW.regT (by kernel_rfl) ?_)
    refine XK.st (some 6) rfl rfl (sf_move (v := .d (.val (.int .i64 e1))) rfl rfl ?_)
    refine XK.st (some 7) rfl rfl (sf_bld (v := .agg [.d (.val (.int .i64 e1))]) rfl TT.bldA_176 (build_of rfl (fill_step (cells' := [.d (.val (.int .i64 e1))]) rfl rfl rfl (Nat.le_of_ble_eq_true rfl) rfl fill_nil)) ?_)
    refine XK.st (some 8) rfl rfl (sf_iface (y := .agg [.val (.int .i64 e1)]) rfl rfl TT.ifaceOK_176 ?_)
    refine XK.panic rfl rfl rfl ?_
    obtain rfl := sO h
    exact EndsS.pan (s' := ⟨tab [], tabH [], 0, []⟩) (View.mk 0 [] _ _ _ rfl rfl (by decide) trivial trivial rfl (Nat.zero_le _) rfl) rfl (Nat.le_of_ble_eq_true rfl) (fun i hi => tabH_app [] [] i hi) rfl (by simp [HO.idsLts, HO.idsLt, PV.idsLts, PV.idsLt, idsLts_d])
  · replace h := bF h hb1
    refine QW.skip (Nat.zero_le _) ?_
    obtain rfl := sO h
    exact EndsS.none (s' := ⟨tab [], tabH [], 0, []⟩) (.inl rfl) (View.mk 0 [] _ _ _ rfl rfl (by decide) trivial trivial rfl (Nat.zero_le _) rfl) rfl (Nat.le_of_ble_eq_true rfl) (fun i hi => tabH_app [] [] i hi) rfl (by simp [HO.idsLts, HO.idsLt, PV.idsLts, PV.idsLt, idsLts_d])

noncomputable def g_rlp_counter_one (depth1 : Int) (c0 : counter) : Option ((Unit ⊕ Int) × counter) :=
    gO (inI ((c0.fn) + (1 : Int))) (
    ((g_rlp_must (decide (depth1 ≤ (64 : Int))) (17)).bind fun xx => match xx with
    | .inl v6 =>
        ((g_rlp_must (decide (((c0.fn) + (1 : Int)) ≤ (4096 : Int))) (4)).bind fun xx => match xx with
        | .inl v11 =>
            some ((.inl ()), (⟨((c0.fn) + (1 : Int))⟩ : counter))
        | .inr e10 =>
            some (.inr e10, (⟨((c0.fn) + (1 : Int))⟩ : counter)))
    | .inr e5 =>
        some (.inr e5, (⟨((c0.fn) + (1 : Int))⟩ : counter))))

set_option maxRecDepth 20000 in
set_option maxHeartbeats 4000000 in
theorem sim_rlp_counter_one (depth1 : Int) (c0 : counter) (r : ((Unit ⊕ Int) × counter)) (h : g_rlp_counter_one depth1 c0 = some r) : Spec Try.prog 142 [.vptr 0 0, .d (.val (.int .i64 depth1))] (tabH [.var [.d (.val (.int .i64 (c0.fn)))]]) 1 (postX (match r.1 with | .inl x => Out.ret (.tuple []) | .inr e => Out.pan (.d (.iface 176 (.agg [.val (.int .i64 e)])))) (tabH [.var [.d (.val (.int .i64 ((r.2).fn)))]]) 1) := by
  refine Spec.of_bodyS Try.func142 rfl (by simp [Try.ntmps142]) (Nat.le_refl _) ?_
  rw [Try.ntmps142, TT.res_142]
  refine QW.view (s' := ⟨tab [(0, .vptr 0 0), (1, .d (.val (.int .i64 depth1)))], tabH [.var [.d (.val (.int .i64 (c0.fn)))]], 1, []⟩) (View.initP (Nat.le_of_ble_eq_true rfl) (by rfl)) (Nat.le_of_ble_eq_true rfl) ?_
  unfold g_rlp_counter_one at h
  refine QW.seq ?_
  refine QW.region (Nat.le_of_ble_eq_true rfl) (PW.regT (by kernel_rfl) ?_)
  refine XK.st (some 4) rfl rfl (sf_move (v := .vptr 0 0) rfl rfl ?_)
  refine XK.st (some 5) rfl rfl (sf_nilCheck (v := .vptr 0 0) rfl rfl rfl ?_)
  refine XK.st (some 6) rfl rfl (sf_fldV rfl TT.fldA_162_0 (by decide) rfl ?_)
  refine XK.st (some 7) rfl rfl (sf_ldV (v := .d (.val (.int .i64 (c0.fn)))) rfl TT.tyA_3 rfl rfl ⟨⟨by simp, by simp⟩, rfl⟩ ?_)
  obtain ⟨c1, h⟩ := gO_get h
  refine XK.st (some 8) rfl rfl (sf_add (a := (c0.fn)) (b := (1 : Int)) rfl rfl rfl c1 ?_)
  refine XK.st (some 9) rfl rfl (sf_nilCheck (v := .vptr 0 0) rfl rfl rfl ?_)
  refine XK.st (some 10) rfl rfl (sf_fldV rfl TT.fldA_162_0 (by decide) rfl ?_)
  refine XK.st none rfl rfl (sf_stV (l' := [.d (.val (.int .i64 ((c0.fn) + (1 : Int))))]) rfl TT.tyA_3 rfl rfl rfl rfl rfl rfl (by simp) rfl ?_)
  refine XK.nil (nrm ?_)
  refine QW.seq ?_
  refine QW.region (Nat.le_of_ble_eq_true rfl) (PW.regT (by kernel_rfl) ?_)
  refine XK.st (some 11) rfl rfl (sf_move (v := .d (.val (.int .i64 depth1))) rfl rfl ?_)
  refine XK.st (some 12) rfl rfl (sf_leq (a := depth1) (b := (64 : Int)) rfl rfl rfl ?_)
  obtain ⟨v6 | e5, hx3, h⟩ := bO h
  · refine XK.fr (p := .tuple []) (H2 := _) (nx2 := 1) (some 13) rfl rfl (xcall_frame [] rfl rfl TT.enters_143 (sim_rlp_must (decide (depth1 ≤ (64 : Int))) (17) _ hx3) rfl rfl (by decide) trivial (Nat.le_of_ble_eq_true rfl)) rfl rfl rfl ?_
    refine XK.nil (nrm ?_)
    refine QW.region (Nat.le_of_ble_eq_true rfl) (PW.regT (by kernel_rfl) ?_)
    refine XK.st (some 14) rfl rfl (sf_move (v := .vptr 0 0) rfl rfl ?_)
    refine XK.st (some 15) rfl rfl (sf_nilCheck (v := .vptr 0 0) rfl rfl rfl ?_)
    refine XK.st (some 16) rfl rfl (sf_fldV rfl TT.fldA_162_0 (by decide) rfl ?_)
    refine XK.st (some 17) rfl rfl (sf_ldV (v := .d (.val (.int .i64 ((c0.fn) + (1 : Int))))) rfl TT.tyA_3 rfl rfl ⟨⟨by simp, by simp⟩, rfl⟩ ?_)
    refine XK.st (some 18) rfl rfl (sf_leq (a := ((c0.fn) + (1 : Int))) (b := (4096 : Int)) rfl rfl rfl ?_)
    obtain ⟨v11 | e10, hx8, h⟩ := bO h
    · refine XK.fr (p := .tuple []) (H2 := _) (nx2 := 1) (some 19) rfl rfl (xcall_frame [] rfl rfl TT.enters_143 (sim_rlp_must (decide (((c0.fn) + (1 : Int)) ≤ (4096 : Int))) (4) _ hx8) rfl rfl (by decide) trivial (Nat.le_of_ble_eq_true rfl)) rfl rfl rfl ?_
      refine XK.nil ?_
      obtain rfl := sO h
      exact EndsS.none (s' := ⟨tab [], tabH [.var [.d (.val (.int .i64 ((c0.fn) + (1 : Int))))]], 1, []⟩) (.inl rfl) (View.mk 1 [0] _ _ _ rfl rfl (by decide) trivial (And.intro rfl trivial) rfl (Nat.le_of_ble_eq_true rfl) rfl) rfl (Nat.le_of_ble_eq_true rfl) (fun i hi => tabH_app [.var [.d (.val (.int .i64 ((c0.fn) + (1 : Int))))]] [] i hi) rfl (by simp [HO.idsLts, HO.idsLt, PV.idsLts, PV.idsLt, idsLts_d])
    · refine XK.fp (p := .d (.iface 176 (.agg [.val (.int .i64 e10)]))) (H2 := _) (nx2 := 1) rfl (xcall_frame [] rfl rfl TT.enters_143 (sim_rlp_must (decide (((c0.fn) + (1 : Int)) ≤ (4096 : Int))) (4) _ hx8) rfl rfl (by decide) trivial (Nat.le_of_ble_eq_true rfl)) rfl rfl rfl ?_
      obtain rfl := sO h
      exact EndsS.pan (s' := ⟨tab [], tabH [.var [.d (.val (.int .i64 ((c0.fn) + (1 : Int))))]], 1, []⟩) (View.mk 1 [0] _ _ _ rfl rfl (by decide) trivial (And.intro rfl trivial) rfl (Nat.le_of_ble_eq_true rfl) rfl) rfl (Nat.le_of_ble_eq_true rfl) (fun i hi => tabH_app [.var [.d (.val (.int .i64 ((c0.fn) + (1 : Int))))]] [] i hi) rfl (by simp [HO.idsLts, HO.idsLt, PV.idsLts, PV.idsLt, idsLts_d])
  · refine XK.fp (p := .d (.iface 176 (.agg [.val (.int .i64 e5)]))) (H2 := _) (nx2 := 1) rfl (xcall_frame [] rfl rfl TT.enters_143 (sim_rlp_must (decide (depth1 ≤ (64 : Int))) (17) _ hx3) rfl rfl (by decide) trivial (Nat.le_of_ble_eq_true rfl)) rfl rfl rfl (thP ?_)
    obtain rfl := sO h
    exact EndsS.pan (s' := ⟨tab [], tabH [.var [.d (.val (.int .i64 ((c0.fn) + (1 : Int))))]], 1, []⟩) (View.mk 1 [0] _ _ _ rfl rfl (by decide) trivial (And.intro rfl trivial) rfl (Nat.le_of_ble_eq_true rfl) rfl) rfl (Nat.le_of_ble_eq_true rfl) (fun i hi => tabH_app [.var [.d (.val (.int .i64 ((c0.fn) + (1 : Int))))]] [] i hi) rfl (by simp [HO.idsLts, HO.idsLt, PV.idsLts, PV.idsLt, idsLts_d])

inductive C_rlp_Head where
  | S
  | L2 (n0_2 : Int) (v5_3 : Int) (v6 : (List UInt8))

noncomputable def step_rlp_Head (n0 : Int) (isList1 : Bool) : C_rlp_Head → Option (C_rlp_Head ⊕ (List UInt8))
  | .S =>
    (((bif isList1 then
    some (192)
    else
    some (128)) : Option Int).bind fun (v5 : Int) =>
    (bif (decide ((minI (maxI n0 (0 : Int)) (4294967296 : Int)) ≤ (55 : Int))) then
    gO (inI (v5 + (minI (maxI n0 (0 : Int)) (4294967296 : Int)))) (
    some (.inr ([(u8I (v5 + (minI (maxI n0 (0 : Int)) (4294967296 : Int))))] : List UInt8)))
    else
    some (.inl (.L2 (minI (maxI n0 (0 : Int)) (4294967296 : Int)) v5 ([] : (List UInt8))))))
  | .L2 n0_2 v5_3 v6 =>
    (bif (decide ((0 : Int) < n0_2)) then
    gO ((([(u8I n0_2)] : List UInt8).length + v6.length) * 1 ≤ 140737488355328) (
    some (.inl (.L2 (shrI n0_2 (8 : Int)) v5_3 (([(u8I n0_2)] : List UInt8) ++ v6))))
    else
    gO (inI (v5_3 + (55 : Int))) (
    gO (inI ((v5_3 + (55 : Int)) + (v6.length : Int))) (
    gO (([(u8I ((v5_3 + (55 : Int)) + (v6.length : Int)))] : List UInt8).length + v6.length ≤ 9223372036854775807) (
    some (.inr (([(u8I ((v5_3 + (55 : Int)) + (v6.length : Int)))] : List UInt8) ++ v6))))))

noncomputable def g_rlp_Head (n0 : Int) (isList1 : Bool) : Option (List UInt8) := theC (step_rlp_Head n0 isList1) .S

set_option maxRecDepth 20000 in
set_option maxHeartbeats 4000000 in
theorem sim_rlp_Head (n0 : Int) (isList1 : Bool) (r : (List UInt8)) (h : g_rlp_Head n0 isList1 = some r) : Fun Try.prog 64 [.val (.int .i64 n0), .val (.bool isList1)] (.val (sV r)) := by
  refine Fun.of_bodyQ Try.func64 rfl (by simp [Try.ntmps64]) ?_
  rw [Try.ntmps64, TT.res_64]
  refine QW.view (s' := ⟨tab [(0, .d (.val (.int .i64 n0))), (1, .d (.val (.bool isList1)))], tabH [], 0, []⟩) (View.init (by rfl)) (Nat.zero_le _) ?_
  replace h := theC_get h
  obtain ⟨_, h⟩ := h
  obtain ⟨k0, rfl, h9⟩ := run_succ h; replace h := h9; clear h9
  refine QW.seq ?_
  refine QW.region (Nat.zero_le _) (PW.regT (by kernel_rfl) ?_)
  refine XK.st (some 4) rfl rfl (sf_assign (v := .d (.val (sV ([] : List UInt8)))) rfl rfl ?_)
  refine XK.nil (nrm ?_)
  refine QW.seq ?_
  refine QW.region (Nat.zero_le _) (PW.regT (by kernel_rfl) ?_)
  refine XK.st (some 7) rfl rfl (sf_move (v := .d (.val (.int .i64 n0))) rfl rfl ?_)
  refine XK.st (some 8) rfl rfl (sf_max (a := n0) (b := (0 : Int)) rfl rfl rfl ?_)
  refine XK.st (some 9) rfl rfl (sf_min (a := (maxI n0 (0 : Int))) (b := (4294967296 : Int)) rfl rfl rfl ?_)
  refine XK.st (some 0) rfl rfl (sf_assign (v := .d (.val (.int .i64 (minI (maxI n0 (0 : Int)) (4294967296 : Int))))) rfl rfl ?_)
  refine XK.nil (nrm ?_)
  refine QW.seq ?_
  refine QW.region (Nat.zero_le _) (PW.regT (by kernel_rfl) ?_)
  refine XK.st (some 5) rfl rfl (sf_assign (v := .d (.val (.int .i64 (128)))) rfl rfl ?_)
  refine XK.nil (nrm ?_)
  obtain ⟨v5, hq, h⟩ := bG h
  refine QW.seqI (fun s' => s' = ⟨tab [(0, .d (.val (.int .i64 (minI (maxI n0 (0 : Int)) (4294967296 : Int))))), (5, .d (.val (.int .i64 v5)))], tabH [], 0, []⟩) ?_ ?_
  · replace h := hq; clear hq
    refine QW.seq ?_
    refine QW.region (Nat.zero_le _) (PW.regT (by kernel_rfl) ?_)
    refine XK.st (some 10) rfl rfl (sf_move (v := .d (.val (.bool isList1))) rfl rfl ?_)
    refine XK.nil (nrm ?_)
    refine QW.cond (t := isList1) rfl (Nat.zero_le _) (fun hb1 => ?_) (fun hb1 => ?_)
    · replace h := bT h hb1
      refine QW.region (Nat.zero_le _) (PW.regT (by kernel_rfl) ?_)
      refine XK.st (some 5) rfl rfl (sf_assign (v := .d (.val (.int .i64 (192)))) rfl rfl ?_)
      refine XK.nil (nrm ?_)
      obtain rfl := sO h
      exact ⟨⟨tab [(0, .d (.val (.int .i64 (minI (maxI n0 (0 : Int)) (4294967296 : Int))))), (5, .d (.val (.int .i64 (192))))], tabH [], 0, []⟩, View.mk 0 [] _ _ _ rfl rfl (by decide) (And.intro (Imp.of_eq rfl) (And.intro (Imp.of_eq rfl) trivial)) trivial rfl (Nat.zero_le _) rfl, rfl⟩
    · replace h := bF h hb1
      refine QW.skip (Nat.zero_le _) (nrm ?_)
      obtain rfl := sO h
      exact ⟨⟨tab [(0, .d (.val (.int .i64 (minI (maxI n0 (0 : Int)) (4294967296 : Int))))), (5, .d (.val (.int .i64 (128))))], tabH [], 0, []⟩, View.mk 0 [] _ _ _ rfl rfl (by decide) (And.intro (Imp.of_eq rfl) (And.intro (Imp.of_eq rfl) trivial)) trivial rfl (Nat.zero_le _) rfl, rfl⟩
  · rintro _ rfl
    refine QW.seq ?_
    refine QW.seq ?_
    refine QW.region (Nat.zero_le _) (PW.regT (by kernel_rfl) ?_)
    refine XK.st (some 11) rfl rfl (sf_move (v := .d (.val (.int .i64 (minI (maxI n0 (0 : Int)) (4294967296 : Int))))) rfl rfl ?_)
    refine XK.st (some 12) rfl rfl (sf_leq (a := (minI (maxI n0 (0 : Int)) (4294967296 : Int))) (b := (55 : Int)) rfl rfl rfl ?_)
    refine XK.nil (nrm ?_)
    refine QW.cond (t := (decide ((minI (maxI n0 (0 : Int)) (4294967296 : Int)) ≤ (55 : Int)))) rfl (Nat.zero_le _) (fun hb2 => ?_) (fun hb2 => ?_)
    · replace h := bGT h hb2
      refine QW.seq ?_
      refine QW.region (Nat.zero_le _) (PW.regT (by kernel_rfl) ?_)
      refine XK.st (some 13) rfl rfl (sf_move (v := .d (.val (.int .i64 v5))) rfl rfl ?_)
      refine XK.st (some 14) rfl rfl (sf_move (v := .d (.val (.int .i64 (minI (maxI n0 (0 : Int)) (4294967296 : Int))))) rfl rfl ?_)
      obtain ⟨c3, h⟩ := gG h
      refine XK.st (some 15) rfl rfl (sf_add (a := v5) (b := (minI (maxI n0 (0 : Int)) (4294967296 : Int))) rfl rfl rfl c3 ?_)
      refine XK.st (some 16) rfl rfl (sf_toU8 (n := (v5 + (minI (maxI n0 (0 : Int)) (4294967296 : Int)))) rfl TT.under_3 TT.under_5 rfl ?_)
      refine XK.st (some 17) rfl rfl (sf_row (en := byteD) (l := ([(u8I (v5 + (minI (maxI n0 (0 : Int)) (4294967296 : Int))))] : List UInt8)) rfl TT.rowA_37 lay_byte rfl rfl (by decide) (by simp [solids, partsP, evP, PV.solid, putS_at, tab, unS, unT, unC, asCond, Value.oneCell']) ?_)
      refine XK.st (some 18) rfl rfl (sf_b2s (l := ([(u8I (v5 + (minI (maxI n0 (0 : Int)) (4294967296 : Int))))] : List UInt8)) rfl TT.under_37 TT.under_5 TT.under_9 rfl ?_)
      refine XK.st (some 4) rfl rfl (sf_assign (v := .d (.val (sV ([(u8I (v5 + (minI (maxI n0 (0 : Int)) (4294967296 : Int))))] : List UInt8)))) rfl rfl ?_)
      refine XK.nil (nrm ?_)
      refine QW.ret (Nat.zero_le _) (thR ?_)
      obtain rfl := sG h
      exact Ends.one (.inr rfl) rfl (ResIs.tmp rfl) rfl rfl
    · replace h := bGF h hb2
      refine QW.skip (Nat.zero_le _) (nrm ?_)
      refine QW.seq ?_
      refine QW.region (Nat.zero_le _) (PW.regT (by kernel_rfl) ?_)
      refine XK.st (some 6) rfl rfl (sf_assign (v := .full (([] : (List UInt8)).map byteD)) rfl rfl ?_)
      refine XK.nil (nrm ?_)
      refine QW.seq ?_
      refine QW.block ?_
      refine QW.loop (fun k σ => ∃ n0_2 : Int, ∃ v5_3 : Int, ∃ v6 : (List UInt8), k ≤ k0 ∧ run (step_rlp_Head n0 isList1) k (.L2 n0_2 v5_3 v6) = some r ∧ σ = ⟨tab [(0, .d (.val (.int .i64 n0_2))), (5, .d (.val (.int .i64 v5_3))), (6, .d (.slice (v6.map byteD)))], tabH [], 0, []⟩) k0 (Nat.zero_le _) ⟨⟨tab [(0, .d (.val (.int .i64 (minI (maxI n0 (0 : Int)) (4294967296 : Int))))), (5, .d (.val (.int .i64 v5))), (6, .d (.slice (([] : (List UInt8)).map byteD)))], tabH [], 0, []⟩, View.mk 0 [] _ _ _ rfl rfl (by decide) (And.intro (Imp.of_eq rfl) (And.intro (Imp.of_eq rfl) (And.intro (Imp.toD rfl) trivial))) trivial rfl (Nat.zero_le _) rfl, (minI (maxI n0 (0 : Int)) (4294967296 : Int)), v5, ([] : (List UInt8)), Nat.le_refl _, jG h, rfl⟩ ?_
      rintro k4s _ ⟨n0_2, v5_3, v6, k4h, h, rfl⟩
      obtain ⟨k4, rfl, h9⟩ := run_succ h; replace h := h9; clear h9
      refine QW.seq ?_
      refine QW.seq ?_
      refine QW.region (Nat.zero_le _) (PW.regT (by kernel_rfl) ?_)
      refine XK.st (some 19) rfl rfl (sf_move (v := .d (.val (.int .i64 n0_2))) rfl rfl ?_)
      refine XK.st (some 20) rfl rfl (sf_gtr (a := n0_2) (b := (0 : Int)) rfl rfl rfl ?_)
      refine XK.nil (nrm ?_)
      refine QW.cond (t := (decide ((0 : Int) < n0_2))) rfl (Nat.zero_le _) (fun hb5 => ?_) (fun hb5 => ?_)
      · replace h := bGT h hb5
        refine QW.skip (Nat.zero_le _) (nrm ?_)
        refine QW.seq ?_
        refine QW.block ?_
        refine QW.region (Nat.zero_le _) (PW.regT (by kernel_rfl) ?_)
        refine XK.st (some 23) rfl rfl (sf_move (v := .d (.val (.int .i64 n0_2))) rfl rfl ?_)
        refine XK.st (some 24) rfl rfl (sf_toU8 (n := n0_2) rfl TT.under_3 TT.under_5 rfl ?_)
        refine XK.st (some 25) rfl rfl (sf_row (en := byteD) (l := ([(u8I n0_2)] : List UInt8)) rfl TT.rowA_37 lay_byte rfl rfl (by decide) (by simp [solids, partsP, evP, PV.solid, putS_at, tab, unS, unT, unC, asCond, Value.oneCell']) ?_)
        refine XK.st (some 26) rfl rfl (sf_move (v := .d (.slice (v6.map byteD))) rfl rfl ?_)
        obtain ⟨c6, h⟩ := gG h
        refine XK.pr (v := .d (.slice ((([(u8I n0_2)] : List UInt8) ++ v6).map byteD))) (some 27) rfl rfl (pr_app (en := byteD) (l := ([(u8I n0_2)] : List UInt8)) (l2 := v6) rfl TT.rowA_37 TT.under_37 rfl lay_byte rfl rfl c6 (by decide)) ?_
        refine XK.st (some 6) rfl rfl (sf_assign (v := .d (.slice ((([(u8I n0_2)] : List UInt8) ++ v6).map byteD))) rfl rfl ?_)
        refine XK.nil (blN (nrm ?_))
        refine QW.region (Nat.zero_le _) (PW.regT (by kernel_rfl) ?_)
        refine XK.st (some 21) rfl rfl (sf_move (v := .d (.val (.int .i64 n0_2))) rfl rfl ?_)
        refine XK.st (some 22) rfl rfl (sf_shr (a := n0_2) (b := (8 : Int)) rfl rfl rfl (by decide) ?_)
        refine XK.st (some 0) rfl rfl (sf_assign (v := .d (.val (.int .i64 (shrI n0_2 (8 : Int))))) rfl rfl ?_)
        refine XK.nil (nrm ?_)
        exact ⟨k4, by omega, ⟨tab [(0, .d (.val (.int .i64 (shrI n0_2 (8 : Int))))), (5, .d (.val (.int .i64 v5_3))), (6, .d (.slice ((([(u8I n0_2)] : List UInt8) ++ v6).map byteD)))], tabH [], 0, []⟩, View.mk 0 [] _ _ _ rfl rfl (by decide) (And.intro (Imp.of_eq rfl) (And.intro (Imp.of_eq rfl) (And.intro (Imp.of_eq rfl) trivial))) trivial rfl (Nat.zero_le _) rfl, (shrI n0_2 (8 : Int)), v5_3, (([(u8I n0_2)] : List UInt8) ++ v6), by omega, jG h, rfl⟩
      · replace h := bGF h hb5
        refine QW.exit (Nat.zero_le _) (thX (thX (exE (nrm ?_))))
        refine QW.seq ?_
        refine QW.region (Nat.zero_le _) (PW.regT (by kernel_rfl) ?_)
        refine XK.st (some 28) rfl rfl (sf_move (v := .d (.val (.int .i64 v5_3))) rfl rfl ?_)
        obtain ⟨c7, h⟩ := gG h
        refine XK.st (some 29) rfl rfl (sf_add (a := v5_3) (b := (55 : Int)) rfl rfl rfl c7 ?_)
        refine XK.st (some 30) rfl rfl (sf_move (v := .d (.slice (v6.map byteD))) rfl rfl ?_)
        refine XK.st (some 31) rfl rfl (sf_lenL (en := byteD) (l := v6) rfl TT.under_37 rfl ?_)
        obtain ⟨c8, h⟩ := gG h
        refine XK.st (some 32) rfl rfl (sf_add (a := (v5_3 + (55 : Int))) (b := (v6.length : Int)) rfl rfl rfl c8 ?_)
        refine XK.st (some 33) rfl rfl (sf_toU8 (n := ((v5_3 + (55 : Int)) + (v6.length : Int))) rfl TT.under_3 TT.under_5 rfl ?_)
        refine XK.st (some 34) rfl rfl (sf_row (en := byteD) (l := ([(u8I ((v5_3 + (55 : Int)) + (v6.length : Int)))] : List UInt8)) rfl TT.rowA_37 lay_byte rfl rfl (by decide) (by simp [solids, partsP, evP, PV.solid, putS_at, tab, unS, unT, unC, asCond, Value.oneCell']) ?_)
        refine XK.st (some 35) rfl rfl (sf_b2s (l := ([(u8I ((v5_3 + (55 : Int)) + (v6.length : Int)))] : List UInt8)) rfl TT.under_37 TT.under_5 TT.under_9 rfl ?_)
        refine XK.st (some 36) rfl rfl (sf_move (v := .d (.slice (v6.map byteD))) rfl rfl ?_)
        refine XK.st (some 37) rfl rfl (sf_b2s (l := v6) rfl TT.under_37 TT.under_5 TT.under_9 rfl ?_)
        obtain ⟨c9, h⟩ := gG h
        refine XK.st (some 38) rfl rfl (sf_cat (a := ([(u8I ((v5_3 + (55 : Int)) + (v6.length : Int)))] : List UInt8)) (b := v6) rfl rfl rfl c9 ?_)
        refine XK.st (some 4) rfl rfl (sf_assign (v := .d (.val (sV (([(u8I ((v5_3 + (55 : Int)) + (v6.length : Int)))] : List UInt8) ++ v6)))) rfl rfl ?_)
        refine XK.nil (nrm ?_)
        refine QW.ret (Nat.zero_le _) ?_
        obtain rfl := sG h
        exact Ends.one (.inr rfl) rfl (ResIs.tmp rfl) rfl rfl

noncomputable def g_rlp_Text (s0 : (List UInt8)) : Option Item :=
    some (⟨false, s0, ([] : (List Item))⟩ : Item)

set_option maxRecDepth 20000 in
set_option maxHeartbeats 4000000 in
theorem sim_rlp_Text (s0 : (List UInt8)) (r : Item) (h : g_rlp_Text s0 = some r) : Fun Try.prog 68 [.val (sV s0)] (.agg (cItem r)) := by
  refine Fun.of_bodyQ Try.func68 rfl (by simp [Try.ntmps68]) ?_
  rw [Try.ntmps68, TT.res_68]
  refine QW.view (s' := ⟨tab [(0, .d (.val (sV s0)))], tabH [], 0, []⟩) (View.init (by rfl)) (Nat.zero_le _) ?_
  unfold g_rlp_Text at h
  refine QW.seq ?_
  refine QW.region (Nat.zero_le _) (PW.regT (by kernel_rfl) ?_)
  refine XK.st (some 2) rfl rfl (sf_alloc (l := [.d (.val (.bool false)), .d (.val (sV ([] : List UInt8))), .full (([] : (List Item)).map eItem)]) rfl TT.zeroA_80 rfl rfl ?_)
  refine XK.nil (nrm ?_)
  refine QW.seq ?_
  refine QW.region (Nat.zero_le _) (PW.regT (by kernel_rfl) ?_)
  refine XK.st (some 3) rfl rfl (sf_move (v := .d (.val (sV s0))) rfl rfl ?_)
  refine XK.st (some 4) rfl rfl (sf_bld (v := .agg [.d (.val (.bool false)), .d (.val (sV s0)), .full (([] : (List Item)).map eItem)]) rfl TT.bldA_80 (build_of rfl (fill_step (cells' := [.d (.val (.bool false)), .d (.val (sV s0)), .full (([] : (List Item)).map eItem)]) rfl rfl rfl (Nat.le_of_ble_eq_true rfl) rfl fill_nil)) ?_)
  refine XK.st none rfl rfl (sf_stV (l' := [.d (.val (.bool false)), .d (.val (sV s0)), .full (([] : (List Item)).map eItem)]) rfl TT.tyA_80 rfl rfl rfl rfl rfl rfl (by simp) rfl ?_)
  refine XK.nil (nrm ?_)
  refine QW.ret (Nat.zero_le _) ?_
  obtain rfl := sO h
  exact Ends.one (.inr rfl) rfl (ResIs.cell rfl rfl TT.tyA_80 ⟨⟨by simp, by simp⟩, rfl⟩) rfl rfl

inductive C_rlp_counter_put where
  | S
  | L1 (v7 : (List UInt8)) (v56 : Int) (c0_0_2 : Int)

noncomputable def step_rlp_counter_put (self : Item → Int → counter → Option (((List UInt8) ⊕ Int) × counter)) (x1 : Item) (depth2 : Int) (c0 : counter) : C_rlp_counter_put → Option (C_rlp_counter_put ⊕ (((List UInt8) ⊕ Int) × counter))
  | .S =>
    ((g_rlp_counter_one depth2 c0).bind fun xx => match xx with
    | (.inl v6, c3) =>
        ((g_rlp_must ((x1.fS == ([] : List UInt8)) || (!(x1).fList)) (6)).bind fun xx => match xx with
        | .inl v11 =>
            ((g_rlp_must ((decide (((x1.fL).length : Int) = (0 : Int))) || x1.fList) (6)).bind fun xx => match xx with
            | .inl v16 =>
                (bif (!(x1).fList) then
                gO ((decide (((x1.fS).length : Int) = (1 : Int))) = true → 0 ≤ (0 : Int) ∧ (0 : Int) < ((x1.fS).length : Int)) (
                (bif ((decide (((x1.fS).length : Int) = (1 : Int))) && (decide (((idx (x1.fS) (0 : Int)).toNat : Int) < (128 : Int)))) then
                some (.inr ((.inl (x1.fS)), c3))
                else
                ((g_rlp_Head ((x1.fS).length : Int) false).bind fun (x20 : (List UInt8)) =>
                gO (x20.length + (x1.fS).length ≤ 9223372036854775807) (
                some (.inr ((.inl (x20 ++ x1.fS)), c3))))))
                else
                some (.inl (.L1 ([] : (List UInt8)) (0) (c3.fn))))
            | .inr e15 =>
                some (.inr (.inr e15, c3)))
        | .inr e10 =>
            some (.inr (.inr e10, c3)))
    | (.inr e5, c3) =>
        some (.inr (.inr e5, c3)))
  | .L1 v7 v56 c0_0_2 =>
    (bif (decide (v56 < ((x1.fL).length : Int))) then
    gO (0 ≤ v56 ∧ v56 < ((x1.fL).length : Int)) (
    gO (inI (depth2 + (1 : Int))) (
    ((self (idx (x1.fL) v56) (depth2 + (1 : Int)) (⟨c0_0_2⟩ : counter)).bind fun xx => match xx with
    | (.inl v32, c29) =>
        gO ((v7.length + v32.length) * 1 ≤ 140737488355328) (
        gO (inI (v56 + (1 : Int))) (
        some (.inl (.L1 (v7 ++ v32) (v56 + (1 : Int)) (c29.fn)))))
    | (.inr e31, c29) =>
        some (.inr (.inr e31, c29)))))
    else
    ((g_rlp_Head (v7.length : Int) true).bind fun (x35 : (List UInt8)) =>
    gO (x35.length + v7.length ≤ 9223372036854775807) (
    some (.inr ((.inl (x35 ++ v7)), (⟨c0_0_2⟩ : counter))))))

noncomputable def gs_rlp_counter_put (self : Item → Int → counter → Option (((List UInt8) ⊕ Int) × counter)) (x1 : Item) (depth2 : Int) (c0 : counter) : Option (((List UInt8) ⊕ Int) × counter) := theC (step_rlp_counter_put self x1 depth2 c0) .S

set_option maxRecDepth 20000 in
set_option maxHeartbeats 4000000 in
theorem sims_rlp_counter_put (self : Item → Int → counter → Option (((List UInt8) ⊕ Int) × counter)) (hself : ∀ (y0 : Item) (y1 : Int) (y2 : counter) (rr : (((List UInt8) ⊕ Int) × counter)), self y0 y1 y2 = some rr → Spec Try.prog 129 [.vptr 0 0, .d (.agg (cItem y0)), .d (.val (.int .i64 y1))] (tabH [.var [.d (.val (.int .i64 (y2.fn)))]]) 1 (postX (match rr.1 with | .inl x => Out.ret (.d (.val (sV x))) | .inr e => Out.pan (.d (.iface 176 (.agg [.val (.int .i64 e)])))) (tabH [.var [.d (.val (.int .i64 ((rr.2).fn)))]]) 1)) (x1 : Item) (depth2 : Int) (c0 : counter) (r : (((List UInt8) ⊕ Int) × counter)) (h : gs_rlp_counter_put self x1 depth2 c0 = some r) : Spec Try.prog 129 [.vptr 0 0, .d (.agg (cItem x1)), .d (.val (.int .i64 depth2))] (tabH [.var [.d (.val (.int .i64 (c0.fn)))]]) 1 (postX (match r.1 with | .inl x => Out.ret (.d (.val (sV x))) | .inr e => Out.pan (.d (.iface 176 (.agg [.val (.int .i64 e)])))) (tabH [.var [.d (.val (.int .i64 ((r.2).fn)))]]) 1) := by
  refine Spec.of_bodyS Try.func129 rfl (by simp [Try.ntmps129]) (Nat.le_refl _) ?_
  rw [Try.ntmps129, TT.res_129]
  refine QW.view (s' := ⟨tab [(0, .vptr 0 0), (1, .d (.agg (cItem x1))), (2, .d (.val (.int .i64 depth2)))], tabH [.var [.d (.val (.int .i64 (c0.fn)))]], 1, []⟩) (View.initP (Nat.le_of_ble_eq_true rfl) (by rfl)) (Nat.le_of_ble_eq_true rfl) ?_
  replace h := theC_get h
  obtain ⟨_, h⟩ := h
  obtain ⟨k0, rfl, h9⟩ := run_succ h; replace h := h9; clear h9
  refine QW.seq ?_
  refine QW.region (Nat.le_of_ble_eq_true rfl) (PW.regT (by kernel_rfl) ?_)
  refine XK.fz (some 4) rfl rfl (sf_boxF (ds := cItem x1) rfl rfl rfl rfl rfl ?_)
  refine XK.st (some 6) rfl rfl (sf_assign (v := .d (.val (sV ([] : List UInt8)))) rfl rfl ?_)
  refine XK.nil (nrm ?_)
  refine QW.seq ?_
  refine QW.region (Nat.le_of_ble_eq_true rfl) (PW.regT (by kernel_rfl) ?_)
  refine XK.st (some 10) rfl rfl (sf_move (v := .vptr 0 0) rfl rfl ?_)
  refine XK.st (some 11) rfl rfl (sf_move (v := .d (.val (.int .i64 depth2))) rfl rfl ?_)
  obtain ⟨⟨v6 | e5, c3⟩, hx2, h⟩ := bG h
  · refine XK.fr (p := .tuple []) (H2 := putH _ 0 (some (.var [.d (.val (.int .i64 (c3.fn)))]))) (nx2 := 1) (some 12) rfl rfl (xcall_frame [0] rfl rfl TT.enters_142 (sim_rlp_counter_one depth2 c0 _ hx2) rfl rfl (by decide) (And.intro rfl trivial) (Nat.le_of_ble_eq_true rfl)) rfl rfl rfl ?_
    refine XK.nil (nrm ?_)
    refine QW.seq ?_
    refine QW.region (Nat.le_of_ble_eq_true rfl) (PW.regT (by kernel_rfl) ?_)
    refine XK.st (some 13) rfl rfl (sf_fldC rfl TT.fldA_80_1 (by decide) rfl ?_)
    refine XK.st (some 14) rfl rfl (sf_ldC (d := .val (sV (x1.fS))) rfl TT.tyA_9 rfl (LdC.one) ?_)
    refine XK.st (some 15) rfl rfl (sf_seq (a := x1.fS) (b := ([] : List UInt8)) rfl rfl rfl ?_)
    refine XK.st (some 16) rfl rfl (sf_move (v := .d (.val (.bool (x1.fS == ([] : List UInt8))))) rfl rfl ?_)
    refine XK.gd (v := .d (.cptr ((cItem x1).drop 0))) (T := []) (some 17) rfl rfl (by repeat (first | exact trivial | refine And.intro (fun hg => by first | rfl | exact hg | exact (Bool.and_eq_true_iff.mp hg).1 | exact (Bool.and_eq_true_iff.mp (Bool.and_eq_true_iff.mp hg).1).1) ?_)) (fun hg => sf_fldC rfl TT.fldA_80_0 (by decide) rfl ⟨⟨rfl, rfl, rfl⟩, rfl, Imp.refl⟩) (fun _ _ hi => nomatch hi) ?_
    refine XK.gd (v := .d (.val (.bool (x1.fList)))) (T := []) (some 18) rfl rfl (by repeat (first | exact trivial | refine And.intro (fun hg => by first | rfl | exact hg | exact (Bool.and_eq_true_iff.mp hg).1 | exact (Bool.and_eq_true_iff.mp (Bool.and_eq_true_iff.mp hg).1).1) ?_)) (fun hg => sf_ldC (d := .val (.bool (x1.fList))) rfl TT.tyA_4 rfl (LdC.one) ⟨⟨rfl, rfl, rfl⟩, rfl, Imp.refl⟩) (fun _ _ hi => nomatch hi) ?_
    refine XK.gd (v := .d (.val (.bool (!(x1).fList)))) (T := []) (some 19) rfl rfl (by repeat (first | exact trivial | refine And.intro (fun hg => by first | rfl | exact hg | exact (Bool.and_eq_true_iff.mp hg).1 | exact (Bool.and_eq_true_iff.mp (Bool.and_eq_true_iff.mp hg).1).1) ?_)) (fun hg => sf_not rfl rfl ⟨⟨rfl, rfl, rfl⟩, rfl, Imp.refl⟩) (fun _ _ hi => nomatch hi) ?_
    refine XK.st (some 20) rfl rfl (sf_pickO rfl rfl rfl rfl (fun _ => rfl) (fun hb => by rw [hb]; rfl) ?_)
    obtain ⟨v11 | e10, hx8, h⟩ := bG h
    · refine XK.fr (p := .tuple []) (H2 := _) (nx2 := 1) (some 21) rfl rfl (xcall_frame [] rfl rfl TT.enters_143 (sim_rlp_must ((x1.fS == ([] : List UInt8)) || (!(x1).fList)) (6) _ hx8) rfl rfl (by decide) trivial (Nat.le_of_ble_eq_true rfl)) rfl rfl rfl ?_
      refine XK.nil (nrm ?_)
      refine QW.seq ?_
      refine QW.region (Nat.le_of_ble_eq_true rfl) (PW.regT (by kernel_rfl) ?_)
      refine XK.st (some 22) rfl rfl (sf_fldC rfl TT.fldA_80_2 (by decide) rfl ?_)
      refine XK.st (some 23) rfl rfl (sf_ldC (d := .slice ((x1.fL).map eItem)) rfl TT.tyA_78 rfl (LdC.one) ?_)
      refine XK.st (some 24) rfl rfl (sf_lenL (en := eItem) (l := x1.fL) rfl TT.under_78 rfl ?_)
      refine XK.st (some 25) rfl rfl (sf_eq (a := ((x1.fL).length : Int)) (b := (0 : Int)) rfl rfl rfl ?_)
      refine XK.st (some 26) rfl rfl (sf_move (v := .d (.val (.bool (decide (((x1.fL).length : Int) = (0 : Int)))))) rfl rfl ?_)
      refine XK.gd (v := .d (.cptr ((cItem x1).drop 0))) (T := []) (some 27) rfl rfl (by repeat (first | exact trivial | refine And.intro (fun hg => by first | rfl | exact hg | exact (Bool.and_eq_true_iff.mp hg).1 | exact (Bool.and_eq_true_iff.mp (Bool.and_eq_true_iff.mp hg).1).1) ?_)) (fun hg => sf_fldC rfl TT.fldA_80_0 (by decide) rfl ⟨⟨rfl, rfl, rfl⟩, rfl, Imp.refl⟩) (fun _ _ hi => nomatch hi) ?_
      refine XK.gd (v := .d (.val (.bool (x1.fList)))) (T := []) (some 28) rfl rfl (by repeat (first | exact trivial | refine And.intro (fun hg => by first | rfl | exact hg | exact (Bool.and_eq_true_iff.mp hg).1 | exact (Bool.and_eq_true_iff.mp (Bool.and_eq_true_iff.mp hg).1).1) ?_)) (fun hg => sf_ldC (d := .val (.bool (x1.fList))) rfl TT.tyA_4 rfl (LdC.one) ⟨⟨rfl, rfl, rfl⟩, rfl, Imp.refl⟩) (fun _ _ hi => nomatch hi) ?_
      refine XK.st (some 29) rfl rfl (sf_pickO rfl rfl rfl rfl (fun _ => rfl) (fun hb => by rw [hb]; rfl) ?_)
      obtain ⟨v16 | e15, hx13, h⟩ := bG h
      · refine XK.fr (p := .tuple []) (H2 := _) (nx2 := 1) (some 30) rfl rfl (xcall_frame [] rfl rfl TT.enters_143 (sim_rlp_must ((decide (((x1.fL).length : Int) = (0 : Int))) || x1.fList) (6) _ hx13) rfl rfl (by decide) trivial (Nat.le_of_ble_eq_true rfl)) rfl rfl rfl ?_
        refine XK.nil (nrm ?_)
        refine QW.seq ?_
        refine QW.seq ?_
        refine QW.view (s' := ⟨tab [(0, .vptr 0 0), (2, .d (.val (.int .i64 depth2))), (4, .d (.cptr (cItem x1)))], tabH [.var [.d (.val (.int .i64 (c3.fn)))]], 1, []⟩) (View.mk 1 [0] _ _ _ rfl rfl (by decide) (And.intro (Imp.of_eq rfl) (And.intro (Imp.of_eq rfl) (And.intro (Imp.of_eq rfl) trivial))) (And.intro rfl trivial) rfl (Nat.le_of_ble_eq_true rfl) rfl) (Nat.le_of_ble_eq_true rfl) ?_
        refine QW.region (Nat.le_of_ble_eq_true rfl) (PW.regT (by kernel_rfl) ?_)
        refine XK.st (some 31) rfl rfl (sf_fldC rfl TT.fldA_80_0 (by decide) rfl ?_)
        refine XK.st (some 32) rfl rfl (sf_ldC (d := .val (.bool (x1.fList))) rfl TT.tyA_4 rfl (LdC.one) ?_)
        refine XK.st (some 33) rfl rfl (sf_not rfl rfl ?_)
        refine XK.nil (nrm ?_)
        refine QW.cond (t := (!(x1).fList)) rfl (Nat.le_of_ble_eq_true rfl) (fun hb17 => ?_) (fun hb17 => ?_)
        · replace h := bGT h hb17
          refine QW.seq ?_
          refine QW.seq ?_
          refine QW.region (Nat.le_of_ble_eq_true rfl) (PW.regT (by kernel_rfl) ?_)
          refine XK.st (some 34) rfl rfl (sf_fldC rfl TT.fldA_80_1 (by decide) rfl ?_)
          refine XK.st (some 35) rfl rfl (sf_ldC (d := .val (sV (x1.fS))) rfl TT.tyA_9 rfl (LdC.one) ?_)
          refine XK.st (some 36) rfl rfl (sf_lenS (l := x1.fS) rfl TT.under_9 rfl ?_)
          refine XK.st (some 37) rfl rfl (sf_eq (a := ((x1.fS).length : Int)) (b := (1 : Int)) rfl rfl rfl ?_)
          refine XK.st (some 38) rfl rfl (sf_move (v := .d (.val (.bool (decide (((x1.fS).length : Int) = (1 : Int)))))) rfl rfl ?_)
          refine XK.gd (v := .d (.cptr ((cItem x1).drop 1))) (T := []) (some 39) rfl rfl (by repeat (first | exact trivial | refine And.intro (fun hg => by first | rfl | exact hg | exact (Bool.and_eq_true_iff.mp hg).1 | exact (Bool.and_eq_true_iff.mp (Bool.and_eq_true_iff.mp hg).1).1) ?_)) (fun hg => sf_fldC rfl TT.fldA_80_1 (by decide) rfl ⟨⟨rfl, rfl, rfl⟩, rfl, Imp.refl⟩) (fun _ _ hi => nomatch hi) ?_
          refine XK.gd (v := .d (.val (sV (x1.fS)))) (T := []) (some 40) rfl rfl (by repeat (first | exact trivial | refine And.intro (fun hg => by first | rfl | exact hg | exact (Bool.and_eq_true_iff.mp hg).1 | exact (Bool.and_eq_true_iff.mp (Bool.and_eq_true_iff.mp hg).1).1) ?_)) (fun hg => sf_ldC (d := .val (sV (x1.fS))) rfl TT.tyA_9 rfl (LdC.one) ⟨⟨rfl, rfl, rfl⟩, rfl, Imp.refl⟩) (fun _ _ hi => nomatch hi) ?_
          obtain ⟨c18, h⟩ := gG h
          refine XK.gd (v := .d (.val (.int .u8 ((idx (x1.fS) (0 : Int)).toNat : Int)))) (T := []) (some 41) rfl rfl (by repeat (first | exact trivial | refine And.intro (fun hg => by first | rfl | exact hg | exact (Bool.and_eq_true_iff.mp hg).1 | exact (Bool.and_eq_true_iff.mp (Bool.and_eq_true_iff.mp hg).1).1) ?_)) (fun hg => sf_idxS (l := x1.fS) (i := (0 : Int)) rfl TT.under_9 TT.arrA_9 rfl rfl (c18 (eqB hg)) ⟨⟨rfl, rfl, rfl⟩, rfl, Imp.refl⟩) (fun _ _ hi => nomatch hi) ?_
          refine XK.gd (v := .d (.val (.bool (decide (((idx (x1.fS) (0 : Int)).toNat : Int) < (128 : Int)))))) (T := []) (some 42) rfl rfl (by repeat (first | exact trivial | refine And.intro (fun hg => by first | rfl | exact hg | exact (Bool.and_eq_true_iff.mp hg).1 | exact (Bool.and_eq_true_iff.mp (Bool.and_eq_true_iff.mp hg).1).1) ?_)) (fun hg => sf_lss (a := ((idx (x1.fS) (0 : Int)).toNat : Int)) (b := (128 : Int)) rfl rfl rfl ⟨⟨rfl, rfl, rfl⟩, rfl, Imp.refl⟩) (fun _ _ hi => nomatch hi) ?_
          refine XK.st (some 43) rfl rfl (sf_pickA rfl rfl rfl rfl (fun hb => by rw [hb]; rfl) (fun _ => rfl) ?_)
          refine XK.nil (nrm ?_)
          refine QW.cond (t := ((decide (((x1.fS).length : Int) = (1 : Int))) && (decide (((idx (x1.fS) (0 : Int)).toNat : Int) < (128 : Int))))) rfl (Nat.le_of_ble_eq_true rfl) (fun hb19 => ?_) (fun hb19 => ?_)
          · replace h := bGT h hb19
            refine QW.seq ?_
            refine QW.region (Nat.le_of_ble_eq_true rfl) (PW.regT (by kernel_rfl) ?_)
            refine XK.st (some 44) rfl rfl (sf_fldC rfl TT.fldA_80_1 (by decide) rfl ?_)
            refine XK.st (some 45) rfl rfl (sf_ldC (d := .val (sV (x1.fS))) rfl TT.tyA_9 rfl (LdC.one) ?_)
            refine XK.st (some 6) rfl rfl (sf_assign (v := .d (.val (sV (x1.fS)))) rfl rfl ?_)
            refine XK.nil (nrm ?_)
            refine QW.ret (Nat.le_of_ble_eq_true rfl) (thR (thR ?_))
            obtain rfl := sG h
            exact EndsS.one (s' := ⟨tab [(6, .d (.val (sV (x1.fS))))], tabH [.var [.d (.val (.int .i64 (c3.fn)))]], 1, []⟩) (.inr rfl) (View.mk 1 [0] _ _ _ rfl rfl (by decide) (And.intro (Imp.of_eq rfl) trivial) (And.intro rfl trivial) rfl (Nat.le_of_ble_eq_true rfl) rfl) rfl (Nat.le_of_ble_eq_true rfl) (fun i hi => tabH_app [.var [.d (.val (.int .i64 (c3.fn)))]] [] i hi) rfl (by simp [HO.idsLts, HO.idsLt, PV.idsLts, PV.idsLt, idsLts_d]) (ResIs.tmp rfl) (by simp [PV.idsLts, PV.idsLt, idsLts_d])
          · replace h := bGF h hb19
            refine QW.skip (Nat.le_of_ble_eq_true rfl) (nrm ?_)
            refine QW.seq ?_
            refine QW.region (Nat.le_of_ble_eq_true rfl) (PW.regQ (id := 7) mixedX (M := _) rfl (by kernel_rfl) ?_)
            refine RQ.st (some 46) rfl rfl (sf_fldC rfl TT.fldA_80_1 (by decide) rfl ⟨⟨rfl, rfl⟩, ?_⟩)
            refine RQ.st (some 47) rfl rfl (sf_ldC (d := .val (sV (x1.fS))) rfl TT.tyA_9 rfl (LdC.one) ⟨⟨rfl, rfl⟩, ?_⟩)
            refine RQ.st (some 48) rfl rfl (sf_lenS (l := x1.fS) rfl TT.under_9 rfl ⟨⟨rfl, rfl⟩, ?_⟩)
            obtain ⟨x20, hx21, h⟩ := bG h
            refine RQ.st (some 49) rfl rfl (sf_call rfl rfl TT.enters_64 rfl (sim_rlp_Head ((x1.fS).length : Int) false _ hx21) ⟨⟨rfl, rfl⟩, ?_⟩)
            refine RQ.st (some 50) rfl rfl (sf_fldC rfl TT.fldA_80_1 (by decide) rfl ⟨⟨rfl, rfl⟩, ?_⟩)
            refine RQ.st (some 51) rfl rfl (sf_ldC (d := .val (sV (x1.fS))) rfl TT.tyA_9 rfl (LdC.one) ⟨⟨rfl, rfl⟩, ?_⟩)
            obtain ⟨c22, h⟩ := gG h
            refine RQ.st (some 52) rfl rfl (sf_cat (a := x20) (b := x1.fS) rfl rfl rfl c22 ⟨⟨rfl, rfl⟩, ?_⟩)
            refine RQ.st (some 6) rfl rfl (sf_assign (v := .d (.val (sV (x20 ++ x1.fS)))) rfl rfl ⟨⟨rfl, rfl⟩, ?_⟩)
            refine RQ.nil (nrm ?_)
            refine QW.ret (Nat.le_of_ble_eq_true rfl) (thR ?_)
            obtain rfl := sG h
            exact EndsS.one (s' := ⟨tab [(6, .d (.val (sV (x20 ++ x1.fS))))], tabH [.var [.d (.val (.int .i64 (c3.fn)))]], 1, []⟩) (.inr rfl) (View.mk 1 [0] _ _ _ rfl rfl (by decide) (And.intro (Imp.of_eq rfl) trivial) (And.intro rfl trivial) rfl (Nat.le_of_ble_eq_true rfl) rfl) rfl (Nat.le_of_ble_eq_true rfl) (fun i hi => tabH_app [.var [.d (.val (.int .i64 (c3.fn)))]] [] i hi) rfl (by simp [HO.idsLts, HO.idsLt, PV.idsLts, PV.idsLt, idsLts_d]) (ResIs.tmp rfl) (by simp [PV.idsLts, PV.idsLt, idsLts_d])
        · replace h := bGF h hb17
          refine QW.skip (Nat.le_of_ble_eq_true rfl) (nrm ?_)
          refine QW.seq ?_
          refine QW.region (Nat.le_of_ble_eq_true rfl) (PW.regT (by kernel_rfl) ?_)
          refine XK.st (some 7) rfl rfl (sf_assign (v := .full (([] : (List UInt8)).map byteD)) rfl rfl ?_)
          refine XK.nil (nrm ?_)
          refine QW.seq ?_
          refine QW.seq ?_
          refine QW.region (Nat.le_of_ble_eq_true rfl) (PW.regT (by kernel_rfl) ?_)
          refine XK.st (some 53) rfl rfl (sf_fldC rfl TT.fldA_80_2 (by decide) rfl ?_)
          refine XK.st (some 54) rfl rfl (sf_ldC (d := .slice ((x1.fL).map eItem)) rfl TT.tyA_78 rfl (LdC.one) ?_)
          refine XK.st (some 55) rfl rfl (sf_lenL (en := eItem) (l := x1.fL) rfl TT.under_78 rfl ?_)
          refine XK.st (some 56) rfl rfl (sf_move (v := .d (.val (.int .i64 (0)))) rfl rfl ?_)
          refine XK.nil (nrm ?_)
          refine QW.block ?_
          refine QW.loop (fun k σ => ∃ v7 : (List UInt8), ∃ v56 : Int, ∃ c0_0_2 : Int, k ≤ k0 ∧ run (step_rlp_counter_put self x1 depth2 c0) k (.L1 v7 v56 c0_0_2) = some r ∧ σ = ⟨tab [(0, .vptr 0 0), (2, .d (.val (.int .i64 depth2))), (7, .own 1 (v7.map byteD)), (54, .d (.slice ((x1.fL).map eItem))), (55, .d (.val (.int .i64 ((x1.fL).length : Int)))), (56, .d (.val (.int .i64 v56)))], tabH [.var [.d (.val (.int .i64 c0_0_2))], .spare 1 v7.length], 2, []⟩) k0 (Nat.le_of_ble_eq_true rfl) ⟨⟨tab [(0, .vptr 0 0), (2, .d (.val (.int .i64 depth2))), (7, .own 1 (([] : (List UInt8)).map byteD)), (54, .d (.slice ((x1.fL).map eItem))), (55, .d (.val (.int .i64 ((x1.fL).length : Int)))), (56, .d (.val (.int .i64 (0))))], tabH [.var [.d (.val (.int .i64 (c3.fn)))], .spare 1 ([] : (List UInt8)).length], 2, []⟩, View.trans (View.buf 7 1 rfl (Nat.le_of_ble_eq_true rfl)) (View.mk 2 [0, 1] _ _ _ rfl rfl (by decide) (And.intro (Imp.of_eq rfl) (And.intro (Imp.of_eq rfl) (And.intro (Imp.of_eq rfl) (And.intro (Imp.of_eq rfl) (And.intro (Imp.of_eq rfl) (And.intro (Imp.of_eq rfl) trivial)))))) (And.intro rfl (And.intro rfl trivial)) rfl (Nat.le_of_ble_eq_true rfl) rfl), ([] : (List UInt8)), 0, c3.fn, Nat.le_refl _, jG h, rfl⟩ ?_
          rintro k23s _ ⟨v7, v56, c0_0_2, k23h, h, rfl⟩
          obtain ⟨k23, rfl, h9⟩ := run_succ h; replace h := h9; clear h9
          refine QW.seq ?_
          refine QW.region (Nat.le_of_ble_eq_true rfl) (PW.regT (by kernel_rfl) ?_)
          refine XK.st (some 57) rfl rfl (sf_lss (a := v56) (b := ((x1.fL).length : Int)) rfl rfl rfl ?_)
          refine XK.nil (nrm ?_)
          refine QW.seq ?_
          refine QW.cond (t := (decide (v56 < ((x1.fL).length : Int)))) rfl (Nat.le_of_ble_eq_true rfl) (fun hb24 => ?_) (fun hb24 => ?_)
          · replace h := bGT h hb24
            refine QW.skip (Nat.le_of_ble_eq_true rfl) (nrm ?_)
            refine QW.seq ?_
            refine QW.block ?_
            refine QW.seq ?_
            refine QW.region (Nat.le_of_ble_eq_true rfl) (PW.regT (by kernel_rfl) ?_)
            obtain ⟨c25, h⟩ := gG h
            refine XK.st (some 58) rfl rfl (sf_idxA (l := x1.fL) (i := v56) rfl TT.slcA_78 lay_Item rfl rfl c25 ?_)
            refine XK.st (some 59) rfl rfl (sf_ldC (d := .agg (cItem (idx (x1.fL) v56))) rfl TT.tyA_80 rfl (⟨by simp [cItem], rfl⟩) ?_)
            refine XK.st (some 9) rfl rfl (sf_alloc (l := [.d (.val (.bool false)), .d (.val (sV ([] : List UInt8))), .full (([] : (List Item)).map eItem)]) rfl TT.zeroA_80 rfl rfl ?_)
            refine XK.st none rfl rfl (sf_stV (l' := [.d (.val (.bool ((idx (x1.fL) v56).fList))), .d (.val (sV ((idx (x1.fL) v56).fS))), .d (.slice (((idx (x1.fL) v56).fL).map eItem))]) rfl TT.tyA_80 rfl rfl rfl rfl rfl rfl (by simp) rfl ?_)
            refine XK.nil (nrm ?_)
            refine QW.region (Nat.le_of_ble_eq_true rfl) (PW.regT (by kernel_rfl) ?_)
            refine XK.st (some 60) rfl rfl (sf_move (v := .own 1 (v7.map byteD)) rfl rfl ?_)
            refine XK.st (some 61) rfl rfl (sf_move (v := .vptr 0 0) rfl rfl ?_)
            refine XK.as (some 62) rfl rfl (sf_ldV (v := .agg [.d (.val (.bool ((idx (x1.fL) v56).fList))), .d (.val (sV ((idx (x1.fL) v56).fS))), .d (.slice (((idx (x1.fL) v56).fL).map eItem))]) rfl TT.tyA_80 rfl rfl ⟨⟨by simp, by simp⟩, rfl⟩ ⟨.d (.agg (cItem (idx (x1.fL) v56))), (Imp.toD rfl), ?_⟩)
            refine XK.st (some 63) rfl rfl (sf_move (v := .d (.val (.int .i64 depth2))) rfl rfl ?_)
            obtain ⟨c26, h⟩ := gG h
            refine XK.st (some 64) rfl rfl (sf_add (a := depth2) (b := (1 : Int)) rfl rfl rfl c26 ?_)
            obtain ⟨⟨v32 | e31, c29⟩, hx28, h⟩ := bG h
            · refine XK.fr (p := .d (.val (sV v32))) (H2 := putH _ 0 (some (.var [.d (.val (.int .i64 (c29.fn)))]))) (nx2 := 3) (some 65) rfl rfl (xcall_frame [0] rfl rfl TT.enters_129 (hself (idx (x1.fL) v56) (depth2 + (1 : Int)) (⟨c0_0_2⟩ : counter) _ hx28) rfl rfl (by decide) (And.intro rfl trivial) (Nat.le_of_ble_eq_true rfl)) rfl rfl rfl ?_
              obtain ⟨c33, h⟩ := gG h
              refine XK.st (some 66) rfl rfl (sf_appO (en := byteD) (l := v7) (l2 := v32) rfl TT.rowA_37 TT.under_9 rfl lay_byte rfl rfl rfl c33 (by decide) ?_)
              refine XK.st (some 7) rfl rfl (sf_assign (v := .own 3 ((v7 ++ v32).map byteD)) rfl rfl ?_)
              refine XK.nil (blN (nrm ?_))
              refine QW.region (Nat.le_of_ble_eq_true rfl) (PW.regT (by kernel_rfl) ?_)
              obtain ⟨c34, h⟩ := gG h
              refine XK.st (some 67) rfl rfl (sf_add (a := v56) (b := (1 : Int)) rfl rfl rfl c34 ?_)
              refine XK.st (some 56) rfl rfl (sf_move (v := .d (.val (.int .i64 (v56 + (1 : Int))))) rfl rfl ?_)
              refine XK.nil (nrm ?_)
              exact ⟨k23, by omega, ⟨tab [(0, .vptr 0 0), (2, .d (.val (.int .i64 depth2))), (7, .own 1 ((v7 ++ v32).map byteD)), (54, .d (.slice ((x1.fL).map eItem))), (55, .d (.val (.int .i64 ((x1.fL).length : Int)))), (56, .d (.val (.int .i64 (v56 + (1 : Int)))))], tabH [.var [.d (.val (.int .i64 (c29.fn)))], .spare 1 (v7 ++ v32).length], 2, []⟩, View.mk 2 [0, 3] _ _ _ rfl rfl (by decide) (And.intro (Imp.of_eq rfl) (And.intro (Imp.of_eq rfl) (And.intro (Imp.of_eq rfl) (And.intro (Imp.of_eq rfl) (And.intro (Imp.of_eq rfl) (And.intro (Imp.of_eq rfl) trivial)))))) (And.intro rfl (And.intro rfl trivial)) rfl (Nat.le_of_ble_eq_true rfl) rfl, (v7 ++ v32), (v56 + (1 : Int)), c29.fn, by omega, jG h, rfl⟩
            · refine XK.fp (p := .d (.iface 176 (.agg [.val (.int .i64 e31)]))) (H2 := putH _ 0 (some (.var [.d (.val (.int .i64 (c29.fn)))]))) (nx2 := 3) rfl (xcall_frame [0] rfl rfl TT.enters_129 (hself (idx (x1.fL) v56) (depth2 + (1 : Int)) (⟨c0_0_2⟩ : counter) _ hx28) rfl rfl (by decide) (And.intro rfl trivial) (Nat.le_of_ble_eq_true rfl)) rfl rfl rfl (blP (thP (thP (blP (thP ?_)))))
              obtain rfl := sG h
              exact EndsS.pan (s' := ⟨tab [], tabH [.var [.d (.val (.int .i64 (c29.fn)))]], 1, []⟩) (View.mk 1 [0] _ _ _ rfl rfl (by decide) trivial (And.intro rfl trivial) rfl (Nat.le_of_ble_eq_true rfl) rfl) rfl (Nat.le_of_ble_eq_true rfl) (fun i hi => tabH_app [.var [.d (.val (.int .i64 (c29.fn)))]] [] i hi) rfl (by simp [HO.idsLts, HO.idsLt, PV.idsLts, PV.idsLt, idsLts_d])
          · replace h := bGF h hb24
            refine QW.exit (Nat.le_of_ble_eq_true rfl) (thX (thX (exE (nrm ?_))))
            refine QW.seq ?_
            refine QW.region (Nat.le_of_ble_eq_true rfl) (PW.regQ (id := 14) mixedX (M := _) rfl (by kernel_rfl) ?_)
            refine RQ.st (some 68) rfl rfl (sf_move (v := .own 1 (v7.map byteD)) rfl rfl ⟨⟨rfl, rfl⟩, ?_⟩)
            refine RQ.st (some 69) rfl rfl (sf_lenL (en := byteD) (l := v7) rfl TT.under_37 rfl ⟨⟨rfl, rfl⟩, ?_⟩)
            obtain ⟨x35, hx36, h⟩ := bG h
            refine RQ.st (some 70) rfl rfl (sf_call rfl rfl TT.enters_64 rfl (sim_rlp_Head (v7.length : Int) true _ hx36) ⟨⟨rfl, rfl⟩, ?_⟩)
            refine RQ.st (some 71) rfl rfl (sf_move (v := .own 1 (v7.map byteD)) rfl rfl ⟨⟨rfl, rfl⟩, ?_⟩)
            refine RQ.st (some 72) rfl rfl (sf_b2s (l := v7) rfl TT.under_37 TT.under_5 TT.under_9 rfl ⟨⟨rfl, rfl⟩, ?_⟩)
            obtain ⟨c37, h⟩ := gG h
            refine RQ.st (some 73) rfl rfl (sf_cat (a := x35) (b := v7) rfl rfl rfl c37 ⟨⟨rfl, rfl⟩, ?_⟩)
            refine RQ.st (some 6) rfl rfl (sf_assign (v := .d (.val (sV (x35 ++ v7)))) rfl rfl ⟨⟨rfl, rfl⟩, ?_⟩)
            refine RQ.nil (nrm ?_)
            refine QW.ret (Nat.le_of_ble_eq_true rfl) ?_
            obtain rfl := sG h
            exact EndsS.one (s' := ⟨tab [(6, .d (.val (sV (x35 ++ v7))))], tabH [.var [.d (.val (.int .i64 c0_0_2))]], 1, []⟩) (.inr rfl) (View.mk 1 [0] _ _ _ rfl rfl (by decide) (And.intro (Imp.of_eq rfl) trivial) (And.intro rfl trivial) rfl (Nat.le_of_ble_eq_true rfl) rfl) rfl (Nat.le_of_ble_eq_true rfl) (fun i hi => tabH_app [.var [.d (.val (.int .i64 c0_0_2))]] [] i hi) rfl (by simp [HO.idsLts, HO.idsLt, PV.idsLts, PV.idsLt, idsLts_d]) (ResIs.tmp rfl) (by simp [PV.idsLts, PV.idsLt, idsLts_d])
      · refine XK.fp (p := .d (.iface 176 (.agg [.val (.int .i64 e15)]))) (H2 := _) (nx2 := 1) rfl (xcall_frame [] rfl rfl TT.enters_143 (sim_rlp_must ((decide (((x1.fL).length : Int) = (0 : Int))) || x1.fList) (6) _ hx13) rfl rfl (by decide) trivial (Nat.le_of_ble_eq_true rfl)) rfl rfl rfl (thP ?_)
        obtain rfl := sG h
        exact EndsS.pan (s' := ⟨tab [], tabH [.var [.d (.val (.int .i64 (c3.fn)))]], 1, []⟩) (View.mk 1 [0] _ _ _ rfl rfl (by decide) trivial (And.intro rfl trivial) rfl (Nat.le_of_ble_eq_true rfl) rfl) rfl (Nat.le_of_ble_eq_true rfl) (fun i hi => tabH_app [.var [.d (.val (.int .i64 (c3.fn)))]] [] i hi) rfl (by simp [HO.idsLts, HO.idsLt, PV.idsLts, PV.idsLt, idsLts_d])
    · refine XK.fp (p := .d (.iface 176 (.agg [.val (.int .i64 e10)]))) (H2 := _) (nx2 := 1) rfl (xcall_frame [] rfl rfl TT.enters_143 (sim_rlp_must ((x1.fS == ([] : List UInt8)) || (!(x1).fList)) (6) _ hx8) rfl rfl (by decide) trivial (Nat.le_of_ble_eq_true rfl)) rfl rfl rfl (thP ?_)
      obtain rfl := sG h
      exact EndsS.pan (s' := ⟨tab [], tabH [.var [.d (.val (.int .i64 (c3.fn)))]], 1, []⟩) (View.mk 1 [0] _ _ _ rfl rfl (by decide) trivial (And.intro rfl trivial) rfl (Nat.le_of_ble_eq_true rfl) rfl) rfl (Nat.le_of_ble_eq_true rfl) (fun i hi => tabH_app [.var [.d (.val (.int .i64 (c3.fn)))]] [] i hi) rfl (by simp [HO.idsLts, HO.idsLt, PV.idsLts, PV.idsLt, idsLts_d])
  · refine XK.fp (p := .d (.iface 176 (.agg [.val (.int .i64 e5)]))) (H2 := putH _ 0 (some (.var [.d (.val (.int .i64 (c3.fn)))]))) (nx2 := 1) rfl (xcall_frame [0] rfl rfl TT.enters_142 (sim_rlp_counter_one depth2 c0 _ hx2) rfl rfl (by decide) (And.intro rfl trivial) (Nat.le_of_ble_eq_true rfl)) rfl rfl rfl (thP ?_)
    obtain rfl := sG h
    exact EndsS.pan (s' := ⟨tab [], tabH [.var [.d (.val (.int .i64 (c3.fn)))]], 1, []⟩) (View.mk 1 [0] _ _ _ rfl rfl (by decide) trivial (And.intro rfl trivial) rfl (Nat.le_of_ble_eq_true rfl) rfl) rfl (Nat.le_of_ble_eq_true rfl) (fun i hi => tabH_app [.var [.d (.val (.int .i64 (c3.fn)))]] [] i hi) rfl (by simp [HO.idsLts, HO.idsLt, PV.idsLts, PV.idsLt, idsLts_d])

noncomputable def rec_rlp_counter_put : Nat → Item → Int → counter → Option (((List UInt8) ⊕ Int) × counter)
  | 0 => fun _ _ _ => none
  | n + 1 => fun y0 y1 y2 => gs_rlp_counter_put (rec_rlp_counter_put n) y0 y1 y2

theorem simr_rlp_counter_put : ∀ (n : Nat) (y0 : Item) (y1 : Int) (y2 : counter) (rr : (((List UInt8) ⊕ Int) × counter)), rec_rlp_counter_put n y0 y1 y2 = some rr → Spec Try.prog 129 [.vptr 0 0, .d (.agg (cItem y0)), .d (.val (.int .i64 y1))] (tabH [.var [.d (.val (.int .i64 (y2.fn)))]]) 1 (postX (match rr.1 with | .inl x => Out.ret (.d (.val (sV x))) | .inr e => Out.pan (.d (.iface 176 (.agg [.val (.int .i64 e)])))) (tabH [.var [.d (.val (.int .i64 ((rr.2).fn)))]]) 1)
  | 0, _, _, _, _, h => by cases h
  | n + 1, y0, y1, y2, rr, h => sims_rlp_counter_put (rec_rlp_counter_put n) (simr_rlp_counter_put n) y0 y1 y2 rr h

noncomputable def g_rlp_counter_put (y0 : Item) (y1 : Int) (y2 : counter) : Option (((List UInt8) ⊕ Int) × counter) := theR (fun n => rec_rlp_counter_put n y0 y1 y2)

theorem sim_rlp_counter_put (y0 : Item) (y1 : Int) (y2 : counter) (rr : (((List UInt8) ⊕ Int) × counter)) (h : g_rlp_counter_put y0 y1 y2 = some rr) : Spec Try.prog 129 [.vptr 0 0, .d (.agg (cItem y0)), .d (.val (.int .i64 y1))] (tabH [.var [.d (.val (.int .i64 (y2.fn)))]]) 1 (postX (match rr.1 with | .inl x => Out.ret (.d (.val (sV x))) | .inr e => Out.pan (.d (.iface 176 (.agg [.val (.int .i64 e)])))) (tabH [.var [.d (.val (.int .i64 ((rr.2).fn)))]]) 1) := by
  obtain ⟨n, hn⟩ := theR_get h
  exact simr_rlp_counter_put n y0 y1 y2 rr hn

inductive C_rlp_length where
  | S
  | L1 (v6 : Int) (v29 : Int)

noncomputable def step_rlp_length (s0 : (List UInt8)) (first1 : Int) : C_rlp_length → Option (C_rlp_length ⊕ ((Int × Int) ⊕ Int))
  | .S =>
    gO (0 ≤ (0 : Int) ∧ (0 : Int) < (s0.length : Int)) (
    gO (inI (((idx s0 (0 : Int)).toNat : Int) - first1)) (
    (bif (decide ((((idx s0 (0 : Int)).toNat : Int) - first1) ≤ (55 : Int))) then
    some (.inr (.inl ((((idx s0 (0 : Int)).toNat : Int) - first1), 1)))
    else
    gO (inI ((((idx s0 (0 : Int)).toNat : Int) - first1) - (55 : Int))) (
    ((g_rlp_must (decide (((((idx s0 (0 : Int)).toNat : Int) - first1) - (55 : Int)) < (s0.length : Int))) (5)).bind fun xx => match xx with
    | .inl v9 =>
        gO (0 ≤ (1 : Int) ∧ (1 : Int) < (s0.length : Int)) (
        ((g_rlp_must (!decide (((idx s0 (1 : Int)).toNat : Int) = (0 : Int))) (6)).bind fun xx => match xx with
        | .inl v15 =>
            some (.inl (.L1 (0) (0)))
        | .inr e14 =>
            some (.inr (.inr e14))))
    | .inr e8 =>
        some (.inr (.inr e8)))))))
  | .L1 v6 v29 =>
    (bif (decide (v29 < ((((idx s0 (0 : Int)).toNat : Int) - first1) - (55 : Int)))) then
    ((g_rlp_must (decide (v6 < (4294967296 : Int))) (5)).bind fun xx => match xx with
    | .inl v22 =>
        gO (0 ≤ (8 : Int) ∧ inI (shlI v6 (8 : Int))) (
        gO (inI ((1 : Int) + v29)) (
        gO (0 ≤ ((1 : Int) + v29) ∧ ((1 : Int) + v29) < (s0.length : Int)) (
        gO (inI (v29 + (1 : Int))) (
        some (.inl (.L1 (orI (shlI v6 (8 : Int)) ((idx s0 ((1 : Int) + v29)).toNat : Int)) (v29 + (1 : Int))))))))
    | .inr e21 =>
        some (.inr (.inr e21)))
    else
    ((g_rlp_must (decide ((55 : Int) < v6)) (6)).bind fun xx => match xx with
    | .inl v31 =>
        gO (inI ((1 : Int) + ((((idx s0 (0 : Int)).toNat : Int) - first1) - (55 : Int)))) (
        some (.inr (.inl (v6, ((1 : Int) + ((((idx s0 (0 : Int)).toNat : Int) - first1) - (55 : Int)))))))
    | .inr e30 =>
        some (.inr (.inr e30))))

noncomputable def g_rlp_length (s0 : (List UInt8)) (first1 : Int) : Option ((Int × Int) ⊕ Int) := theC (step_rlp_length s0 first1) .S

set_option maxRecDepth 20000 in
set_option maxHeartbeats 4000000 in
theorem sim_rlp_length (s0 : (List UInt8)) (first1 : Int) (r : ((Int × Int) ⊕ Int)) (h : g_rlp_length s0 first1 = some r) : Spec Try.prog 144 [.d (.val (sV s0)), .d (.val (.int .i64 first1))] (tabH []) 0 (postX (match r with | .inl x => Out.ret (.tuple [.d (.val (.int .i64 (x.1))), .d (.val (.int .i64 (x.2)))]) | .inr e => Out.pan (.d (.iface 176 (.agg [.val (.int .i64 e)])))) (tabH []) 0) := by
  refine Spec.of_bodyS Try.func144 rfl (by simp [Try.ntmps144]) (Nat.le_refl _) ?_
  rw [Try.ntmps144, TT.res_144]
  refine QW.view (s' := ⟨tab [(0, .d (.val (sV s0))), (1, .d (.val (.int .i64 first1)))], tabH [], 0, []⟩) (View.initP (Nat.zero_le _) (by rfl)) (Nat.zero_le _) ?_
  replace h := theC_get h
  obtain ⟨_, h⟩ := h
  obtain ⟨k0, rfl, h9⟩ := run_succ h; replace h := h9; clear h9
  refine QW.seq ?_
  refine QW.region (Nat.zero_le _) (PW.regT (by kernel_rfl) ?_)
  refine XK.st (some 4) rfl rfl (sf_assign (v := .d (.val (.int .i64 (0)))) rfl rfl ?_)
  refine XK.st (some 5) rfl rfl (sf_assign (v := .d (.val (.int .i64 (0)))) rfl rfl ?_)
  refine XK.nil (nrm ?_)
  refine QW.seq ?_
  refine QW.region (Nat.zero_le _) (PW.regT (by kernel_rfl) ?_)
  refine XK.st (some 9) rfl rfl (sf_move (v := .d (.val (sV s0))) rfl rfl ?_)
  obtain ⟨c1, h⟩ := gG h
  refine XK.st (some 10) rfl rfl (sf_idxS (l := s0) (i := (0 : Int)) rfl TT.under_9 TT.arrA_9 rfl rfl c1 ?_)
  refine XK.st (some 11) rfl rfl (sf_toI (n := ((idx s0 (0 : Int)).toNat : Int)) rfl TT.under_5 TT.under_3 rfl (inI_u8 _) ?_)
  refine XK.st (some 12) rfl rfl (sf_move (v := .d (.val (.int .i64 first1))) rfl rfl ?_)
  obtain ⟨c2, h⟩ := gG h
  refine XK.st (some 13) rfl rfl (sf_sub (a := ((idx s0 (0 : Int)).toNat : Int)) (b := first1) rfl rfl rfl c2 ?_)
  refine XK.st (some 6) rfl rfl (sf_assign (v := .d (.val (.int .i64 (((idx s0 (0 : Int)).toNat : Int) - first1)))) rfl rfl ?_)
  refine XK.nil (nrm ?_)
  refine QW.seq ?_
  refine QW.seq ?_
  refine QW.region (Nat.zero_le _) (PW.regT (by kernel_rfl) ?_)
  refine XK.st (some 14) rfl rfl (sf_move (v := .d (.val (.int .i64 (((idx s0 (0 : Int)).toNat : Int) - first1)))) rfl rfl ?_)
  refine XK.st (some 15) rfl rfl (sf_leq (a := (((idx s0 (0 : Int)).toNat : Int) - first1)) (b := (55 : Int)) rfl rfl rfl ?_)
  refine XK.nil (nrm ?_)
  refine QW.cond (t := (decide ((((idx s0 (0 : Int)).toNat : Int) - first1) ≤ (55 : Int)))) rfl (Nat.zero_le _) (fun hb3 => ?_) (fun hb3 => ?_)
  · replace h := bGT h hb3
    refine QW.seq ?_
    refine QW.region (Nat.zero_le _) (PW.regT (by kernel_rfl) ?_)
    refine XK.st (some 16) rfl rfl (sf_move (v := .d (.val (.int .i64 (((idx s0 (0 : Int)).toNat : Int) - first1)))) rfl rfl ?_)
    refine XK.st (some 4) rfl rfl (sf_assign (v := .d (.val (.int .i64 (((idx s0 (0 : Int)).toNat : Int) - first1)))) rfl rfl ?_)
    refine XK.st (some 5) rfl rfl (sf_assign (v := .d (.val (.int .i64 (1)))) rfl rfl ?_)
    refine XK.nil (nrm ?_)
    refine QW.ret (Nat.zero_le _) (thR ?_)
    obtain rfl := sG h
    exact EndsS.more (s' := ⟨tab [(4, .d (.val (.int .i64 (((idx s0 (0 : Int)).toNat : Int) - first1)))), (5, .d (.val (.int .i64 (1))))], tabH [], 0, []⟩) (ps := [.d (.val (.int .i64 (((idx s0 (0 : Int)).toNat : Int) - first1))), .d (.val (.int .i64 (1)))]) (.inr rfl) (View.mk 0 [] _ _ _ rfl rfl (by decide) (And.intro (Imp.of_eq rfl) (And.intro (Imp.of_eq rfl) trivial)) trivial rfl (Nat.zero_le _) rfl) rfl (Nat.le_of_ble_eq_true rfl) (fun i hi => tabH_app [] [] i hi) rfl (by simp [HO.idsLts, HO.idsLt, PV.idsLts, PV.idsLt, idsLts_d]) (And.intro (ResIs.tmp rfl) (And.intro (ResIs.tmp rfl) trivial)) (by simp [PV.idsLts, PV.idsLt, idsLts_d])
  · replace h := bGF h hb3
    refine QW.skip (Nat.zero_le _) (nrm ?_)
    refine QW.seq ?_
    refine QW.region (Nat.zero_le _) (PW.regT (by kernel_rfl) ?_)
    refine XK.st (some 17) rfl rfl (sf_move (v := .d (.val (.int .i64 (((idx s0 (0 : Int)).toNat : Int) - first1)))) rfl rfl ?_)
    obtain ⟨c4, h⟩ := gG h
    refine XK.st (some 18) rfl rfl (sf_sub (a := (((idx s0 (0 : Int)).toNat : Int) - first1)) (b := (55 : Int)) rfl rfl rfl c4 ?_)
    refine XK.st (some 7) rfl rfl (sf_assign (v := .d (.val (.int .i64 ((((idx s0 (0 : Int)).toNat : Int) - first1) - (55 : Int))))) rfl rfl ?_)
    refine XK.nil (nrm ?_)
    refine QW.seq ?_
    refine QW.region (Nat.zero_le _) (PW.regT (by kernel_rfl) ?_)
    refine XK.st (some 19) rfl rfl (sf_move (v := .d (.val (sV s0))) rfl rfl ?_)
    refine XK.st (some 20) rfl rfl (sf_lenS (l := s0) rfl TT.under_9 rfl ?_)
    refine XK.st (some 21) rfl rfl (sf_move (v := .d (.val (.int .i64 ((((idx s0 (0 : Int)).toNat : Int) - first1) - (55 : Int))))) rfl rfl ?_)
    refine XK.st (some 22) rfl rfl (sf_gtr (a := (s0.length : Int)) (b := ((((idx s0 (0 : Int)).toNat : Int) - first1) - (55 : Int))) rfl rfl rfl ?_)
    obtain ⟨v9 | e8, hx6, h⟩ := bG h
    · refine XK.fr (p := .tuple []) (H2 := _) (nx2 := 0) (some 23) rfl rfl (xcall_frame [] rfl rfl TT.enters_143 (sim_rlp_must (decide (((((idx s0 (0 : Int)).toNat : Int) - first1) - (55 : Int)) < (s0.length : Int))) (5) _ hx6) rfl rfl (by decide) trivial (Nat.le_of_ble_eq_true rfl)) rfl rfl rfl ?_
      refine XK.nil (nrm ?_)
      refine QW.seq ?_
      refine QW.region (Nat.zero_le _) (PW.regT (by kernel_rfl) ?_)
      refine XK.st (some 24) rfl rfl (sf_move (v := .d (.val (sV s0))) rfl rfl ?_)
      obtain ⟨c10, h⟩ := gG h
      refine XK.st (some 25) rfl rfl (sf_idxS (l := s0) (i := (1 : Int)) rfl TT.under_9 TT.arrA_9 rfl rfl c10 ?_)
      refine XK.st (some 26) rfl rfl (sf_ne (a := ((idx s0 (1 : Int)).toNat : Int)) (b := (0 : Int)) rfl rfl rfl ?_)
      obtain ⟨v15 | e14, hx12, h⟩ := bG h
      · refine XK.fr (p := .tuple []) (H2 := _) (nx2 := 0) (some 27) rfl rfl (xcall_frame [] rfl rfl TT.enters_143 (sim_rlp_must (!decide (((idx s0 (1 : Int)).toNat : Int) = (0 : Int))) (6) _ hx12) rfl rfl (by decide) trivial (Nat.le_of_ble_eq_true rfl)) rfl rfl rfl ?_
        refine XK.nil (nrm ?_)
        refine QW.seq ?_
        refine QW.region (Nat.zero_le _) (PW.regT (by kernel_rfl) ?_)
        refine XK.st (some 6) rfl rfl (sf_assign (v := .d (.val (.int .i64 (0)))) rfl rfl ?_)
        refine XK.nil (nrm ?_)
        refine QW.seq ?_
        refine QW.seq ?_
        refine QW.region (Nat.zero_le _) (PW.regT (by kernel_rfl) ?_)
        refine XK.st (some 28) rfl rfl (sf_move (v := .d (.val (.int .i64 ((((idx s0 (0 : Int)).toNat : Int) - first1) - (55 : Int))))) rfl rfl ?_)
        refine XK.st (some 29) rfl rfl (sf_move (v := .d (.val (.int .i64 (0)))) rfl rfl ?_)
        refine XK.nil (nrm ?_)
        refine QW.block ?_
        refine QW.loop (fun k σ => ∃ v6 : Int, ∃ v29 : Int, k ≤ k0 ∧ run (step_rlp_length s0 first1) k (.L1 v6 v29) = some r ∧ σ = ⟨tab [(0, .d (.val (sV s0))), (6, .d (.val (.int .i64 v6))), (7, .d (.val (.int .i64 ((((idx s0 (0 : Int)).toNat : Int) - first1) - (55 : Int))))), (28, .d (.val (.int .i64 ((((idx s0 (0 : Int)).toNat : Int) - first1) - (55 : Int))))), (29, .d (.val (.int .i64 v29)))], tabH [], 0, []⟩) k0 (Nat.zero_le _) ⟨⟨tab [(0, .d (.val (sV s0))), (6, .d (.val (.int .i64 (0)))), (7, .d (.val (.int .i64 ((((idx s0 (0 : Int)).toNat : Int) - first1) - (55 : Int))))), (28, .d (.val (.int .i64 ((((idx s0 (0 : Int)).toNat : Int) - first1) - (55 : Int))))), (29, .d (.val (.int .i64 (0))))], tabH [], 0, []⟩, View.mk 0 [] _ _ _ rfl rfl (by decide) (And.intro (Imp.of_eq rfl) (And.intro (Imp.of_eq rfl) (And.intro (Imp.of_eq rfl) (And.intro (Imp.of_eq rfl) (And.intro (Imp.of_eq rfl) trivial))))) trivial rfl (Nat.zero_le _) rfl, 0, 0, Nat.le_refl _, jG h, rfl⟩ ?_
        rintro k16s _ ⟨v6, v29, k16h, h, rfl⟩
        obtain ⟨k16, rfl, h9⟩ := run_succ h; replace h := h9; clear h9
        refine QW.seq ?_
        refine QW.region (Nat.zero_le _) (PW.regT (by kernel_rfl) ?_)
        refine XK.st (some 30) rfl rfl (sf_lss (a := v29) (b := ((((idx s0 (0 : Int)).toNat : Int) - first1) - (55 : Int))) rfl rfl rfl ?_)
        refine XK.nil (nrm ?_)
        refine QW.seq ?_
        refine QW.cond (t := (decide (v29 < ((((idx s0 (0 : Int)).toNat : Int) - first1) - (55 : Int))))) rfl (Nat.zero_le _) (fun hb17 => ?_) (fun hb17 => ?_)
        · replace h := bGT h hb17
          refine QW.skip (Nat.zero_le _) (nrm ?_)
          refine QW.seq ?_
          refine QW.block ?_
          refine QW.seq ?_
          refine QW.region (Nat.zero_le _) (PW.regT (by kernel_rfl) ?_)
          refine XK.st (some 31) rfl rfl (sf_move (v := .d (.val (.int .i64 v29))) rfl rfl ?_)
          refine XK.st (some 8) rfl rfl (sf_assign (v := .d (.val (.int .i64 v29))) rfl rfl ?_)
          refine XK.nil (nrm ?_)
          refine QW.seq ?_
          refine QW.region (Nat.zero_le _) (PW.regT (by kernel_rfl) ?_)
          refine XK.st (some 32) rfl rfl (sf_move (v := .d (.val (.int .i64 v6))) rfl rfl ?_)
          refine XK.st (some 33) rfl rfl (sf_lss (a := v6) (b := (4294967296 : Int)) rfl rfl rfl ?_)
          obtain ⟨v22 | e21, hx19, h⟩ := bG h
          · refine XK.fr (p := .tuple []) (H2 := _) (nx2 := 0) (some 34) rfl rfl (xcall_frame [] rfl rfl TT.enters_143 (sim_rlp_must (decide (v6 < (4294967296 : Int))) (5) _ hx19) rfl rfl (by decide) trivial (Nat.le_of_ble_eq_true rfl)) rfl rfl rfl ?_
            refine XK.nil (nrm ?_)
            refine QW.region (Nat.zero_le _) (PW.regT (by kernel_rfl) ?_)
            refine XK.st (some 35) rfl rfl (sf_move (v := .d (.val (.int .i64 v6))) rfl rfl ?_)
            obtain ⟨c23, h⟩ := gG h
            refine XK.st (some 36) rfl rfl (sf_shl (a := v6) (b := (8 : Int)) rfl rfl rfl c23 ?_)
            refine XK.st (some 37) rfl rfl (sf_move (v := .d (.val (sV s0))) rfl rfl ?_)
            refine XK.st (some 38) rfl rfl (sf_move (v := .d (.val (.int .i64 v29))) rfl rfl ?_)
            obtain ⟨c24, h⟩ := gG h
            refine XK.st (some 39) rfl rfl (sf_add (a := (1 : Int)) (b := v29) rfl rfl rfl c24 ?_)
            obtain ⟨c25, h⟩ := gG h
            refine XK.st (some 40) rfl rfl (sf_idxS (l := s0) (i := ((1 : Int) + v29)) rfl TT.under_9 TT.arrA_9 rfl rfl c25 ?_)
            refine XK.st (some 41) rfl rfl (sf_toI (n := ((idx s0 ((1 : Int) + v29)).toNat : Int)) rfl TT.under_5 TT.under_3 rfl (inI_u8 _) ?_)
            refine XK.st (some 42) rfl rfl (sf_or (a := (shlI v6 (8 : Int))) (b := ((idx s0 ((1 : Int) + v29)).toNat : Int)) rfl rfl rfl ?_)
            refine XK.st (some 6) rfl rfl (sf_assign (v := .d (.val (.int .i64 (orI (shlI v6 (8 : Int)) ((idx s0 ((1 : Int) + v29)).toNat : Int))))) rfl rfl ?_)
            refine XK.nil (blN (nrm ?_))
            refine QW.region (Nat.zero_le _) (PW.regT (by kernel_rfl) ?_)
            obtain ⟨c26, h⟩ := gG h
            refine XK.st (some 43) rfl rfl (sf_add (a := v29) (b := (1 : Int)) rfl rfl rfl c26 ?_)
            refine XK.st (some 29) rfl rfl (sf_move (v := .d (.val (.int .i64 (v29 + (1 : Int))))) rfl rfl ?_)
            refine XK.nil (nrm ?_)
            exact ⟨k16, by omega, ⟨tab [(0, .d (.val (sV s0))), (6, .d (.val (.int .i64 (orI (shlI v6 (8 : Int)) ((idx s0 ((1 : Int) + v29)).toNat : Int))))), (7, .d (.val (.int .i64 ((((idx s0 (0 : Int)).toNat : Int) - first1) - (55 : Int))))), (28, .d (.val (.int .i64 ((((idx s0 (0 : Int)).toNat : Int) - first1) - (55 : Int))))), (29, .d (.val (.int .i64 (v29 + (1 : Int)))))], tabH [], 0, []⟩, View.mk 0 [] _ _ _ rfl rfl (by decide) (And.intro (Imp.of_eq rfl) (And.intro (Imp.of_eq rfl) (And.intro (Imp.of_eq rfl) (And.intro (Imp.of_eq rfl) (And.intro (Imp.of_eq rfl) trivial))))) trivial rfl (Nat.zero_le _) rfl, (orI (shlI v6 (8 : Int)) ((idx s0 ((1 : Int) + v29)).toNat : Int)), (v29 + (1 : Int)), by omega, jG h, rfl⟩
          · refine XK.fp (p := .d (.iface 176 (.agg [.val (.int .i64 e21)]))) (H2 := _) (nx2 := 0) rfl (xcall_frame [] rfl rfl TT.enters_143 (sim_rlp_must (decide (v6 < (4294967296 : Int))) (5) _ hx19) rfl rfl (by decide) trivial (Nat.le_of_ble_eq_true rfl)) rfl rfl rfl (thP (blP (thP (thP (blP (thP ?_))))))
            obtain rfl := sG h
            exact EndsS.pan (s' := ⟨tab [], tabH [], 0, []⟩) (View.mk 0 [] _ _ _ rfl rfl (by decide) trivial trivial rfl (Nat.zero_le _) rfl) rfl (Nat.le_of_ble_eq_true rfl) (fun i hi => tabH_app [] [] i hi) rfl (by simp [HO.idsLts, HO.idsLt, PV.idsLts, PV.idsLt, idsLts_d])
        · replace h := bGF h hb17
          refine QW.exit (Nat.zero_le _) (thX (thX (exE (nrm ?_))))
          refine QW.seq ?_
          refine QW.region (Nat.zero_le _) (PW.regT (by kernel_rfl) ?_)
          refine XK.st (some 44) rfl rfl (sf_move (v := .d (.val (.int .i64 v6))) rfl rfl ?_)
          refine XK.st (some 45) rfl rfl (sf_gtr (a := v6) (b := (55 : Int)) rfl rfl rfl ?_)
          obtain ⟨v31 | e30, hx28, h⟩ := bG h
          · refine XK.fr (p := .tuple []) (H2 := _) (nx2 := 0) (some 46) rfl rfl (xcall_frame [] rfl rfl TT.enters_143 (sim_rlp_must (decide ((55 : Int) < v6)) (6) _ hx28) rfl rfl (by decide) trivial (Nat.le_of_ble_eq_true rfl)) rfl rfl rfl ?_
            refine XK.nil (nrm ?_)
            refine QW.seq ?_
            refine QW.region (Nat.zero_le _) (PW.regT (by kernel_rfl) ?_)
            refine XK.st (some 47) rfl rfl (sf_move (v := .d (.val (.int .i64 v6))) rfl rfl ?_)
            refine XK.st (some 48) rfl rfl (sf_move (v := .d (.val (.int .i64 ((((idx s0 (0 : Int)).toNat : Int) - first1) - (55 : Int))))) rfl rfl ?_)
            obtain ⟨c32, h⟩ := gG h
            refine XK.st (some 49) rfl rfl (sf_add (a := (1 : Int)) (b := ((((idx s0 (0 : Int)).toNat : Int) - first1) - (55 : Int))) rfl rfl rfl c32 ?_)
            refine XK.st (some 4) rfl rfl (sf_assign (v := .d (.val (.int .i64 v6))) rfl rfl ?_)
            refine XK.st (some 5) rfl rfl (sf_assign (v := .d (.val (.int .i64 ((1 : Int) + ((((idx s0 (0 : Int)).toNat : Int) - first1) - (55 : Int)))))) rfl rfl ?_)
            refine XK.nil (nrm ?_)
            refine QW.ret (Nat.zero_le _) ?_
            obtain rfl := sG h
            exact EndsS.more (s' := ⟨tab [(4, .d (.val (.int .i64 v6))), (5, .d (.val (.int .i64 ((1 : Int) + ((((idx s0 (0 : Int)).toNat : Int) - first1) - (55 : Int))))))], tabH [], 0, []⟩) (ps := [.d (.val (.int .i64 v6)), .d (.val (.int .i64 ((1 : Int) + ((((idx s0 (0 : Int)).toNat : Int) - first1) - (55 : Int)))))]) (.inr rfl) (View.mk 0 [] _ _ _ rfl rfl (by decide) (And.intro (Imp.of_eq rfl) (And.intro (Imp.of_eq rfl) trivial)) trivial rfl (Nat.zero_le _) rfl) rfl (Nat.le_of_ble_eq_true rfl) (fun i hi => tabH_app [] [] i hi) rfl (by simp [HO.idsLts, HO.idsLt, PV.idsLts, PV.idsLt, idsLts_d]) (And.intro (ResIs.tmp rfl) (And.intro (ResIs.tmp rfl) trivial)) (by simp [PV.idsLts, PV.idsLt, idsLts_d])
          · refine XK.fp (p := .d (.iface 176 (.agg [.val (.int .i64 e30)]))) (H2 := _) (nx2 := 0) rfl (xcall_frame [] rfl rfl TT.enters_143 (sim_rlp_must (decide ((55 : Int) < v6)) (6) _ hx28) rfl rfl (by decide) trivial (Nat.le_of_ble_eq_true rfl)) rfl rfl rfl (thP ?_)
            obtain rfl := sG h
            exact EndsS.pan (s' := ⟨tab [], tabH [], 0, []⟩) (View.mk 0 [] _ _ _ rfl rfl (by decide) trivial trivial rfl (Nat.zero_le _) rfl) rfl (Nat.le_of_ble_eq_true rfl) (fun i hi => tabH_app [] [] i hi) rfl (by simp [HO.idsLts, HO.idsLt, PV.idsLts, PV.idsLt, idsLts_d])
      · refine XK.fp (p := .d (.iface 176 (.agg [.val (.int .i64 e14)]))) (H2 := _) (nx2 := 0) rfl (xcall_frame [] rfl rfl TT.enters_143 (sim_rlp_must (!decide (((idx s0 (1 : Int)).toNat : Int) = (0 : Int))) (6) _ hx12) rfl rfl (by decide) trivial (Nat.le_of_ble_eq_true rfl)) rfl rfl rfl (thP ?_)
        obtain rfl := sG h
        exact EndsS.pan (s' := ⟨tab [], tabH [], 0, []⟩) (View.mk 0 [] _ _ _ rfl rfl (by decide) trivial trivial rfl (Nat.zero_le _) rfl) rfl (Nat.le_of_ble_eq_true rfl) (fun i hi => tabH_app [] [] i hi) rfl (by simp [HO.idsLts, HO.idsLt, PV.idsLts, PV.idsLt, idsLts_d])
    · refine XK.fp (p := .d (.iface 176 (.agg [.val (.int .i64 e8)]))) (H2 := _) (nx2 := 0) rfl (xcall_frame [] rfl rfl TT.enters_143 (sim_rlp_must (decide (((((idx s0 (0 : Int)).toNat : Int) - first1) - (55 : Int)) < (s0.length : Int))) (5) _ hx6) rfl rfl (by decide) trivial (Nat.le_of_ble_eq_true rfl)) rfl rfl rfl (thP ?_)
      obtain rfl := sG h
      exact EndsS.pan (s' := ⟨tab [], tabH [], 0, []⟩) (View.mk 0 [] _ _ _ rfl rfl (by decide) trivial trivial rfl (Nat.zero_le _) rfl) rfl (Nat.le_of_ble_eq_true rfl) (fun i hi => tabH_app [] [] i hi) rfl (by simp [HO.idsLts, HO.idsLt, PV.idsLts, PV.idsLt, idsLts_d])

inductive C_rlp_counter_get where
  | S
  | L2 (v10_2 : Int) (v11_2 : Int) (v12_2 : (List UInt8)) (c0_0_2 : Int) (v13_2 : (List Item))

noncomputable def step_rlp_counter_get (self : (List UInt8) → Int → counter → Option (((Item × Int) ⊕ Int) × counter)) (s1 : (List UInt8)) (depth2 : Int) (c0 : counter) : C_rlp_counter_get → Option (C_rlp_counter_get ⊕ (((Item × Int) ⊕ Int) × counter))
  | .S =>
    ((g_rlp_counter_one depth2 c0).bind fun xx => match xx with
    | (.inl v6, c3) =>
        ((g_rlp_must (!(s1 == ([] : List UInt8))) (5)).bind fun xx => match xx with
        | .inl v11 =>
            gO (0 ≤ (0 : Int) ∧ (0 : Int) < (s1.length : Int)) (
            (bif (decide (((idx s1 (0 : Int)).toNat : Int) < (128 : Int))) then
            gO (0 ≤ (0 : Int) ∧ (0 : Int) ≤ (1 : Int) ∧ (1 : Int) ≤ (s1.length : Int)) (
            ((g_rlp_Text (sub s1 (0 : Int) (1 : Int))).bind fun (x15 : Item) =>
            some (.inr ((.inl (x15, 1)), c3))))
            else
            gO (0 ≤ (0 : Int) ∧ (0 : Int) < (s1.length : Int)) (
            (((bif (decide ((192 : Int) ≤ ((idx s1 (0 : Int)).toNat : Int))) then
            some (192)
            else
            some (128)) : Option Int).bind fun (v9 : Int) =>
            ((g_rlp_length s1 v9).bind fun xx => match xx with
            | .inl v23 =>
                gO (inI ((s1.length : Int) - (v23.2))) (
                ((g_rlp_must (decide ((v23.1) ≤ ((s1.length : Int) - (v23.2)))) (5)).bind fun xx => match xx with
                | .inl v29 =>
                    gO (inI ((v23.2) + (v23.1))) (
                    gO (0 ≤ (v23.2) ∧ (v23.2) ≤ ((v23.2) + (v23.1)) ∧ ((v23.2) + (v23.1)) ≤ (s1.length : Int)) (
                    (bif (!(decide ((192 : Int) ≤ ((idx s1 (0 : Int)).toNat : Int)))) then
                    gO ((!decide ((v23.1) = (1 : Int))) = false → 0 ≤ (0 : Int) ∧ (0 : Int) < ((sub s1 (v23.2) ((v23.2) + (v23.1))).length : Int)) (
                    ((g_rlp_must ((!decide ((v23.1) = (1 : Int))) || (decide ((128 : Int) ≤ ((idx (sub s1 (v23.2) ((v23.2) + (v23.1))) (0 : Int)).toNat : Int)))) (6)).bind fun xx => match xx with
                    | .inl v38 =>
                        ((g_rlp_Text (sub s1 (v23.2) ((v23.2) + (v23.1)))).bind fun (x39 : Item) =>
                        gO (inI ((v23.2) + (v23.1))) (
                        some (.inr ((.inl (x39, ((v23.2) + (v23.1)))), c3))))
                    | .inr e37 =>
                        some (.inr (.inr e37, c3))))
                    else
                    some (.inl (.L2 (v23.1) (v23.2) (sub s1 (v23.2) ((v23.2) + (v23.1))) (c3.fn) ([] : (List Item)))))))
                | .inr e28 =>
                    some (.inr (.inr e28, c3))))
            | .inr e22 =>
                some (.inr (.inr e22, c3)))))))
        | .inr e10 =>
            some (.inr (.inr e10, c3)))
    | (.inr e5, c3) =>
        some (.inr (.inr e5, c3)))
  | .L2 v10_2 v11_2 v12_2 c0_0_2 v13_2 =>
    (bif (!(v12_2 == ([] : List UInt8))) then
    gO (inI (depth2 + (1 : Int))) (
    ((self v12_2 (depth2 + (1 : Int)) (⟨c0_0_2⟩ : counter)).bind fun xx => match xx with
    | (.inl v50, c47) =>
        gO ((v13_2.length + ([v50.1] : List Item).length) * 48 ≤ 140737488355328) (
        gO (0 ≤ (v50.2) ∧ (v50.2) ≤ (v12_2.length : Int) ∧ (v12_2.length : Int) ≤ (v12_2.length : Int)) (
        some (.inl (.L2 v10_2 v11_2 (sub v12_2 (v50.2) (v12_2.length : Int)) (c47.fn) (v13_2 ++ ([v50.1] : List Item))))))
    | (.inr e49, c47) =>
        some (.inr (.inr e49, c47))))
    else
    gO (inI (v11_2 + v10_2)) (
    some (.inr ((.inl ((⟨true, ([] : List UInt8), v13_2⟩ : Item), (v11_2 + v10_2))), (⟨c0_0_2⟩ : counter)))))

noncomputable def gs_rlp_counter_get (self : (List UInt8) → Int → counter → Option (((Item × Int) ⊕ Int) × counter)) (s1 : (List UInt8)) (depth2 : Int) (c0 : counter) : Option (((Item × Int) ⊕ Int) × counter) := theC (step_rlp_counter_get self s1 depth2 c0) .S

set_option maxRecDepth 20000 in
set_option maxHeartbeats 4000000 in
theorem sims_rlp_counter_get (self : (List UInt8) → Int → counter → Option (((Item × Int) ⊕ Int) × counter)) (hself : ∀ (y0 : (List UInt8)) (y1 : Int) (y2 : counter) (rr : (((Item × Int) ⊕ Int) × counter)), self y0 y1 y2 = some rr → Spec Try.prog 130 [.vptr 0 0, .d (.val (sV y0)), .d (.val (.int .i64 y1))] (tabH [.var [.d (.val (.int .i64 (y2.fn)))]]) 1 (postX (match rr.1 with | .inl x => Out.ret (.tuple [.agg [.d (.val (.bool ((x.1).fList))), .d (.val (sV ((x.1).fS))), .d (.slice (((x.1).fL).map eItem))], .d (.val (.int .i64 (x.2)))]) | .inr e => Out.pan (.d (.iface 176 (.agg [.val (.int .i64 e)])))) (tabH [.var [.d (.val (.int .i64 ((rr.2).fn)))]]) 1)) (s1 : (List UInt8)) (depth2 : Int) (c0 : counter) (r : (((Item × Int) ⊕ Int) × counter)) (h : gs_rlp_counter_get self s1 depth2 c0 = some r) : Spec Try.prog 130 [.vptr 0 0, .d (.val (sV s1)), .d (.val (.int .i64 depth2))] (tabH [.var [.d (.val (.int .i64 (c0.fn)))]]) 1 (postX (match r.1 with | .inl x => Out.ret (.tuple [.agg [.d (.val (.bool ((x.1).fList))), .d (.val (sV ((x.1).fS))), .d (.slice (((x.1).fL).map eItem))], .d (.val (.int .i64 (x.2)))]) | .inr e => Out.pan (.d (.iface 176 (.agg [.val (.int .i64 e)])))) (tabH [.var [.d (.val (.int .i64 ((r.2).fn)))]]) 1) := by
  refine Spec.of_bodyS Try.func130 rfl (by simp [Try.ntmps130]) (Nat.le_refl _) ?_
  rw [Try.ntmps130, TT.res_130]
  refine QW.view (s' := ⟨tab [(0, .vptr 0 0), (1, .d (.val (sV s1))), (2, .d (.val (.int .i64 depth2)))], tabH [.var [.d (.val (.int .i64 (c0.fn)))]], 1, []⟩) (View.initP (Nat.le_of_ble_eq_true rfl) (by rfl)) (Nat.le_of_ble_eq_true rfl) ?_
  replace h := theC_get h
  obtain ⟨_, h⟩ := h
  obtain ⟨k0, rfl, h9⟩ := run_succ h; replace h := h9; clear h9
  refine QW.seq ?_
  refine QW.region (Nat.le_of_ble_eq_true rfl) (PW.regT (by kernel_rfl) ?_)
  refine XK.st (some 6) rfl rfl (sf_alloc (l := [.d (.val (.bool false)), .d (.val (sV ([] : List UInt8))), .full (([] : (List Item)).map eItem)]) rfl TT.zeroA_80 rfl rfl ?_)
  refine XK.st (some 7) rfl rfl (sf_assign (v := .d (.val (.int .i64 (0)))) rfl rfl ?_)
  refine XK.nil (nrm ?_)
  refine QW.seq ?_
  refine QW.region (Nat.le_of_ble_eq_true rfl) (PW.regT (by kernel_rfl) ?_)
  refine XK.st (some 16) rfl rfl (sf_move (v := .vptr 0 0) rfl rfl ?_)
  refine XK.st (some 17) rfl rfl (sf_move (v := .d (.val (.int .i64 depth2))) rfl rfl ?_)
  obtain ⟨⟨v6 | e5, c3⟩, hx2, h⟩ := bG h
  · refine XK.fr (p := .tuple []) (H2 := putH _ 0 (some (.var [.d (.val (.int .i64 (c3.fn)))]))) (nx2 := 2) (some 18) rfl rfl (xcall_frame [0] rfl rfl TT.enters_142 (sim_rlp_counter_one depth2 c0 _ hx2) rfl rfl (by decide) (And.intro rfl trivial) (Nat.le_of_ble_eq_true rfl)) rfl rfl rfl ?_
    refine XK.nil (nrm ?_)
    refine QW.seq ?_
    refine QW.region (Nat.le_of_ble_eq_true rfl) (PW.regT (by kernel_rfl) ?_)
    refine XK.st (some 19) rfl rfl (sf_move (v := .d (.val (sV s1))) rfl rfl ?_)
    refine XK.st (some 20) rfl rfl (sf_sne (a := s1) (b := ([] : List UInt8)) rfl rfl rfl ?_)
    obtain ⟨v11 | e10, hx8, h⟩ := bG h
    · refine XK.fr (p := .tuple []) (H2 := _) (nx2 := 2) (some 21) rfl rfl (xcall_frame [] rfl rfl TT.enters_143 (sim_rlp_must (!(s1 == ([] : List UInt8))) (5) _ hx8) rfl rfl (by decide) trivial (Nat.le_of_ble_eq_true rfl)) rfl rfl rfl ?_
      refine XK.nil (nrm ?_)
      refine QW.seq ?_
      refine QW.seq ?_
      refine QW.region (Nat.le_of_ble_eq_true rfl) (PW.regT (by kernel_rfl) ?_)
      refine XK.st (some 22) rfl rfl (sf_move (v := .d (.val (sV s1))) rfl rfl ?_)
      obtain ⟨c12, h⟩ := gG h
      refine XK.st (some 23) rfl rfl (sf_idxS (l := s1) (i := (0 : Int)) rfl TT.under_9 TT.arrA_9 rfl rfl c12 ?_)
      refine XK.st (some 24) rfl rfl (sf_lss (a := ((idx s1 (0 : Int)).toNat : Int)) (b := (128 : Int)) rfl rfl rfl ?_)
      refine XK.nil (nrm ?_)
      refine QW.cond (t := (decide (((idx s1 (0 : Int)).toNat : Int) < (128 : Int)))) rfl (Nat.le_of_ble_eq_true rfl) (fun hb13 => ?_) (fun hb13 => ?_)
      · replace h := bGT h hb13
        refine QW.seq ?_
        refine QW.region (Nat.le_of_ble_eq_true rfl) (PW.regT (by kernel_rfl) ?_)
        refine XK.st (some 25) rfl rfl (sf_move (v := .d (.val (sV s1))) rfl rfl ?_)
        obtain ⟨c14, h⟩ := gG h
        refine XK.st (some 26) rfl rfl (sf_subS (l := s1) (a := (0 : Int)) (b := (1 : Int)) rfl TT.under_9 rfl rfl rfl c14 ?_)
        obtain ⟨x15, hx16, h⟩ := bG h
        refine XK.st (some 27) rfl rfl (sf_call rfl rfl TT.enters_68 rfl (sim_rlp_Text (sub s1 (0 : Int) (1 : Int)) _ hx16) ?_)
        refine XK.st none rfl rfl (sf_stV (l' := [.d (.val (.bool (x15.fList))), .d (.val (sV (x15.fS))), .d (.slice ((x15.fL).map eItem))]) rfl TT.tyA_80 rfl rfl rfl rfl rfl rfl (by simp) rfl ?_)
        refine XK.st (some 7) rfl rfl (sf_assign (v := .d (.val (.int .i64 (1)))) rfl rfl ?_)
        refine XK.nil (nrm ?_)
        refine QW.ret (Nat.le_of_ble_eq_true rfl) (thR ?_)
        obtain rfl := sG h
        exact EndsS.more (s' := ⟨tab [(6, .vptr 1 0), (7, .d (.val (.int .i64 (1))))], tabH [.var [.d (.val (.int .i64 (c3.fn)))], .var [.d (.val (.bool (x15.fList))), .d (.val (sV (x15.fS))), .d (.slice ((x15.fL).map eItem))]], 2, []⟩) (ps := [.agg [.d (.val (.bool (x15.fList))), .d (.val (sV (x15.fS))), .d (.slice ((x15.fL).map eItem))], .d (.val (.int .i64 (1)))]) (.inr rfl) (View.mk 2 [0, 1] _ _ _ rfl rfl (by decide) (And.intro (Imp.of_eq rfl) (And.intro (Imp.of_eq rfl) trivial)) (And.intro rfl (And.intro rfl trivial)) rfl (Nat.le_of_ble_eq_true rfl) rfl) rfl (Nat.le_of_ble_eq_true rfl) (fun i hi => tabH_app [.var [.d (.val (.int .i64 (c3.fn)))]] [.var [.d (.val (.bool (x15.fList))), .d (.val (sV (x15.fS))), .d (.slice ((x15.fL).map eItem))]] i hi) rfl (by simp [HO.idsLts, HO.idsLt, PV.idsLts, PV.idsLt, idsLts_d]) (And.intro (ResIs.cell rfl rfl TT.tyA_80 ⟨⟨by simp, by simp⟩, rfl⟩) (And.intro (ResIs.tmp rfl) trivial)) (by simp [PV.idsLts, PV.idsLt, idsLts_d])
      · replace h := bGF h hb13
        refine QW.skip (Nat.le_of_ble_eq_true rfl) (nrm ?_)
        refine QW.seq ?_
        refine QW.region (Nat.le_of_ble_eq_true rfl) (PW.regT (by kernel_rfl) ?_)
        refine XK.st (some 28) rfl rfl (sf_move (v := .d (.val (sV s1))) rfl rfl ?_)
        obtain ⟨c17, h⟩ := gG h
        refine XK.st (some 29) rfl rfl (sf_idxS (l := s1) (i := (0 : Int)) rfl TT.under_9 TT.arrA_9 rfl rfl c17 ?_)
        refine XK.st (some 30) rfl rfl (sf_geq (a := ((idx s1 (0 : Int)).toNat : Int)) (b := (192 : Int)) rfl rfl rfl ?_)
        refine XK.st (some 8) rfl rfl (sf_assign (v := .d (.val (.bool (decide ((192 : Int) ≤ ((idx s1 (0 : Int)).toNat : Int)))))) rfl rfl ?_)
        refine XK.nil (nrm ?_)
        refine QW.seq ?_
        refine QW.region (Nat.le_of_ble_eq_true rfl) (PW.regT (by kernel_rfl) ?_)
        refine XK.st (some 9) rfl rfl (sf_assign (v := .d (.val (.int .i64 (128)))) rfl rfl ?_)
        refine XK.nil (nrm ?_)
        obtain ⟨v9, hq, h⟩ := bG h
        refine QW.seqI (fun s' => s' = ⟨tab [(0, .vptr 0 0), (1, .d (.val (sV s1))), (2, .d (.val (.int .i64 depth2))), (6, .vptr 1 0), (8, .d (.val (.bool (decide ((192 : Int) ≤ ((idx s1 (0 : Int)).toNat : Int)))))), (9, .d (.val (.int .i64 v9)))], tabH [.var [.d (.val (.int .i64 (c3.fn)))], .var [.d (.val (.bool false)), .d (.val (sV ([] : List UInt8))), .full (([] : (List Item)).map eItem)]], 2, []⟩) ?_ ?_
        · replace h := hq; clear hq
          refine QW.seq ?_
          refine QW.region (Nat.le_of_ble_eq_true rfl) (PW.regT (by kernel_rfl) ?_)
          refine XK.st (some 31) rfl rfl (sf_move (v := .d (.val (.bool (decide ((192 : Int) ≤ ((idx s1 (0 : Int)).toNat : Int)))))) rfl rfl ?_)
          refine XK.nil (nrm ?_)
          refine QW.cond (t := (decide ((192 : Int) ≤ ((idx s1 (0 : Int)).toNat : Int)))) rfl (Nat.le_of_ble_eq_true rfl) (fun hb18 => ?_) (fun hb18 => ?_)
          · replace h := bT h hb18
            refine QW.region (Nat.le_of_ble_eq_true rfl) (PW.regT (by kernel_rfl) ?_)
            refine XK.st (some 9) rfl rfl (sf_assign (v := .d (.val (.int .i64 (192)))) rfl rfl ?_)
            refine XK.nil (nrm ?_)
            obtain rfl := sO h
            exact ⟨⟨tab [(0, .vptr 0 0), (1, .d (.val (sV s1))), (2, .d (.val (.int .i64 depth2))), (6, .vptr 1 0), (8, .d (.val (.bool (decide ((192 : Int) ≤ ((idx s1 (0 : Int)).toNat : Int)))))), (9, .d (.val (.int .i64 (192))))], tabH [.var [.d (.val (.int .i64 (c3.fn)))], .var [.d (.val (.bool false)), .d (.val (sV ([] : List UInt8))), .full (([] : (List Item)).map eItem)]], 2, []⟩, View.mk 2 [0, 1] _ _ _ rfl rfl (by decide) (And.intro (Imp.of_eq rfl) (And.intro (Imp.of_eq rfl) (And.intro (Imp.of_eq rfl) (And.intro (Imp.of_eq rfl) (And.intro (Imp.of_eq rfl) (And.intro (Imp.of_eq rfl) trivial)))))) (And.intro rfl (And.intro rfl trivial)) rfl (Nat.le_of_ble_eq_true rfl) rfl, rfl⟩
          · replace h := bF h hb18
            refine QW.skip (Nat.le_of_ble_eq_true rfl) (nrm ?_)
            obtain rfl := sO h
            exact ⟨⟨tab [(0, .vptr 0 0), (1, .d (.val (sV s1))), (2, .d (.val (.int .i64 depth2))), (6, .vptr 1 0), (8, .d (.val (.bool (decide ((192 : Int) ≤ ((idx s1 (0 : Int)).toNat : Int)))))), (9, .d (.val (.int .i64 (128))))], tabH [.var [.d (.val (.int .i64 (c3.fn)))], .var [.d (.val (.bool false)), .d (.val (sV ([] : List UInt8))), .full (([] : (List Item)).map eItem)]], 2, []⟩, View.mk 2 [0, 1] _ _ _ rfl rfl (by decide) (And.intro (Imp.of_eq rfl) (And.intro (Imp.of_eq rfl) (And.intro (Imp.of_eq rfl) (And.intro (Imp.of_eq rfl) (And.intro (Imp.of_eq rfl) (And.intro (Imp.of_eq rfl) trivial)))))) (And.intro rfl (And.intro rfl trivial)) rfl (Nat.le_of_ble_eq_true rfl) rfl, rfl⟩
        · rintro _ rfl
          refine QW.seq ?_
          refine QW.region (Nat.le_of_ble_eq_true rfl) (PW.regT (by kernel_rfl) ?_)
          refine XK.st (some 33) rfl rfl (sf_move (v := .d (.val (sV s1))) rfl rfl ?_)
          refine XK.st (some 34) rfl rfl (sf_move (v := .d (.val (.int .i64 v9))) rfl rfl ?_)
          obtain ⟨v23 | e22, hx20, h⟩ := bG h
          · refine XK.fr (p := .tuple [.d (.val (.int .i64 (v23.1))), .d (.val (.int .i64 (v23.2)))]) (H2 := _) (nx2 := 2) (some 35) rfl rfl (xcall_frame [] rfl rfl TT.enters_144 (sim_rlp_length s1 v9 _ hx20) rfl rfl (by decide) trivial (Nat.le_of_ble_eq_true rfl)) rfl rfl rfl ?_
            refine XK.st (some 32) rfl rfl (sf_move (v := .tuple [.d (.val (.int .i64 (v23.1))), .d (.val (.int .i64 (v23.2)))]) rfl rfl ?_)
            refine XK.st (some 36) rfl rfl (sf_extractP rfl rfl rfl ?_)
            refine XK.st (some 37) rfl rfl (sf_extractP rfl rfl rfl ?_)
            refine XK.st (some 10) rfl rfl (sf_assign (v := .d (.val (.int .i64 (v23.1)))) rfl rfl ?_)
            refine XK.st (some 11) rfl rfl (sf_assign (v := .d (.val (.int .i64 (v23.2)))) rfl rfl ?_)
            refine XK.nil (nrm ?_)
            refine QW.seq ?_
            refine QW.region (Nat.le_of_ble_eq_true rfl) (PW.regT (by kernel_rfl) ?_)
            refine XK.st (some 38) rfl rfl (sf_move (v := .d (.val (.int .i64 (v23.1)))) rfl rfl ?_)
            refine XK.st (some 39) rfl rfl (sf_move (v := .d (.val (sV s1))) rfl rfl ?_)
            refine XK.st (some 40) rfl rfl (sf_lenS (l := s1) rfl TT.under_9 rfl ?_)
            refine XK.st (some 41) rfl rfl (sf_move (v := .d (.val (.int .i64 (v23.2)))) rfl rfl ?_)
            obtain ⟨c24, h⟩ := gG h
            refine XK.st (some 42) rfl rfl (sf_sub (a := (s1.length : Int)) (b := (v23.2)) rfl rfl rfl c24 ?_)
            refine XK.st (some 43) rfl rfl (sf_leq (a := (v23.1)) (b := ((s1.length : Int) - (v23.2))) rfl rfl rfl ?_)
            obtain ⟨v29 | e28, hx26, h⟩ := bG h
            · refine XK.fr (p := .tuple []) (H2 := _) (nx2 := 2) (some 44) rfl rfl (xcall_frame [] rfl rfl TT.enters_143 (sim_rlp_must (decide ((v23.1) ≤ ((s1.length : Int) - (v23.2)))) (5) _ hx26) rfl rfl (by decide) trivial (Nat.le_of_ble_eq_true rfl)) rfl rfl rfl ?_
              refine XK.nil (nrm ?_)
              refine QW.seq ?_
              refine QW.view (s' := ⟨tab [(0, .vptr 0 0), (1, .d (.val (sV s1))), (2, .d (.val (.int .i64 depth2))), (6, .vptr 1 0), (8, .d (.val (.bool (decide ((192 : Int) ≤ ((idx s1 (0 : Int)).toNat : Int)))))), (10, .d (.val (.int .i64 (v23.1)))), (11, .d (.val (.int .i64 (v23.2))))], tabH [.var [.d (.val (.int .i64 (c3.fn)))], .var [.d (.val (.bool false)), .d (.val (sV ([] : List UInt8))), .full (([] : (List Item)).map eItem)]], 2, []⟩) (View.mk 2 [0, 1] _ _ _ rfl rfl (by decide) (And.intro (Imp.of_eq rfl) (And.intro (Imp.of_eq rfl) (And.intro (Imp.of_eq rfl) (And.intro (Imp.of_eq rfl) (And.intro (Imp.of_eq rfl) (And.intro (Imp.of_eq rfl) (And.intro (Imp.of_eq rfl) trivial))))))) (And.intro rfl (And.intro rfl trivial)) rfl (Nat.le_of_ble_eq_true rfl) rfl) (Nat.le_of_ble_eq_true rfl) ?_
              refine QW.region (Nat.le_of_ble_eq_true rfl) (PW.regT (by kernel_rfl) ?_)
              refine XK.st (some 45) rfl rfl (sf_move (v := .d (.val (sV s1))) rfl rfl ?_)
              refine XK.st (some 46) rfl rfl (sf_move (v := .d (.val (.int .i64 (v23.2)))) rfl rfl ?_)
              refine XK.st (some 47) rfl rfl (sf_move (v := .d (.val (.int .i64 (v23.2)))) rfl rfl ?_)
              refine XK.st (some 48) rfl rfl (sf_move (v := .d (.val (.int .i64 (v23.1)))) rfl rfl ?_)
              obtain ⟨c30, h⟩ := gG h
              refine XK.st (some 49) rfl rfl (sf_add (a := (v23.2)) (b := (v23.1)) rfl rfl rfl c30 ?_)
              obtain ⟨c31, h⟩ := gG h
              refine XK.st (some 50) rfl rfl (sf_subS (l := s1) (a := (v23.2)) (b := ((v23.2) + (v23.1))) rfl TT.under_9 rfl rfl rfl c31 ?_)
              refine XK.st (some 12) rfl rfl (sf_assign (v := .d (.val (sV (sub s1 (v23.2) ((v23.2) + (v23.1)))))) rfl rfl ?_)
              refine XK.nil (nrm ?_)
              refine QW.seq ?_
              refine QW.seq ?_
              refine QW.region (Nat.le_of_ble_eq_true rfl) (PW.regT (by kernel_rfl) ?_)
              refine XK.st (some 51) rfl rfl (sf_move (v := .d (.val (.bool (decide ((192 : Int) ≤ ((idx s1 (0 : Int)).toNat : Int)))))) rfl rfl ?_)
              refine XK.st (some 52) rfl rfl (sf_not rfl rfl ?_)
              refine XK.nil (nrm ?_)
              refine QW.cond (t := (!(decide ((192 : Int) ≤ ((idx s1 (0 : Int)).toNat : Int))))) rfl (Nat.le_of_ble_eq_true rfl) (fun hb32 => ?_) (fun hb32 => ?_)
              · replace h := bGT h hb32
                refine QW.seq ?_
                refine QW.region (Nat.le_of_ble_eq_true rfl) (PW.regT (by kernel_rfl) ?_)
                refine XK.st (some 53) rfl rfl (sf_move (v := .d (.val (.int .i64 (v23.1)))) rfl rfl ?_)
                refine XK.st (some 54) rfl rfl (sf_ne (a := (v23.1)) (b := (1 : Int)) rfl rfl rfl ?_)
                refine XK.st (some 55) rfl rfl (sf_move (v := .d (.val (.bool (!decide ((v23.1) = (1 : Int)))))) rfl rfl ?_)
                refine XK.gd (v := .d (.val (sV (sub s1 (v23.2) ((v23.2) + (v23.1)))))) (T := []) (some 56) rfl rfl (by repeat (first | exact trivial | refine And.intro (fun hg => by first | rfl | exact hg | exact (Bool.and_eq_true_iff.mp hg).1 | exact (Bool.and_eq_true_iff.mp (Bool.and_eq_true_iff.mp hg).1).1) ?_)) (fun hg => sf_move (v := .d (.val (sV (sub s1 (v23.2) ((v23.2) + (v23.1)))))) rfl rfl ⟨⟨rfl, rfl, rfl⟩, rfl, Imp.refl⟩) (fun _ _ hi => nomatch hi) ?_
                obtain ⟨c33, h⟩ := gG h
                refine XK.gd (v := .d (.val (.int .u8 ((idx (sub s1 (v23.2) ((v23.2) + (v23.1))) (0 : Int)).toNat : Int)))) (T := []) (some 57) rfl rfl (by repeat (first | exact trivial | refine And.intro (fun hg => by first | rfl | exact hg | exact (Bool.and_eq_true_iff.mp hg).1 | exact (Bool.and_eq_true_iff.mp (Bool.and_eq_true_iff.mp hg).1).1) ?_)) (fun hg => sf_idxS (l := (sub s1 (v23.2) ((v23.2) + (v23.1)))) (i := (0 : Int)) rfl TT.under_9 TT.arrA_9 rfl rfl (c33 (eqB hg)) ⟨⟨rfl, rfl, rfl⟩, rfl, Imp.refl⟩) (fun _ _ hi => nomatch hi) ?_
                refine XK.gd (v := .d (.val (.bool (decide ((128 : Int) ≤ ((idx (sub s1 (v23.2) ((v23.2) + (v23.1))) (0 : Int)).toNat : Int)))))) (T := []) (some 58) rfl rfl (by repeat (first | exact trivial | refine And.intro (fun hg => by first | rfl | exact hg | exact (Bool.and_eq_true_iff.mp hg).1 | exact (Bool.and_eq_true_iff.mp (Bool.and_eq_true_iff.mp hg).1).1) ?_)) (fun hg => sf_geq (a := ((idx (sub s1 (v23.2) ((v23.2) + (v23.1))) (0 : Int)).toNat : Int)) (b := (128 : Int)) rfl rfl rfl ⟨⟨rfl, rfl, rfl⟩, rfl, Imp.refl⟩) (fun _ _ hi => nomatch hi) ?_
                refine XK.st (some 59) rfl rfl (sf_pickO rfl rfl rfl rfl (fun _ => rfl) (fun hb => by rw [hb]; rfl) ?_)
                obtain ⟨v38 | e37, hx35, h⟩ := bG h
                · refine XK.fr (p := .tuple []) (H2 := _) (nx2 := 2) (some 60) rfl rfl (xcall_frame [] rfl rfl TT.enters_143 (sim_rlp_must ((!decide ((v23.1) = (1 : Int))) || (decide ((128 : Int) ≤ ((idx (sub s1 (v23.2) ((v23.2) + (v23.1))) (0 : Int)).toNat : Int)))) (6) _ hx35) rfl rfl (by decide) trivial (Nat.le_of_ble_eq_true rfl)) rfl rfl rfl ?_
                  refine XK.nil (nrm ?_)
                  refine QW.seq ?_
                  refine QW.region (Nat.le_of_ble_eq_true rfl) (PW.regT (by kernel_rfl) ?_)
                  refine XK.st (some 61) rfl rfl (sf_move (v := .d (.val (sV (sub s1 (v23.2) ((v23.2) + (v23.1)))))) rfl rfl ?_)
                  obtain ⟨x39, hx40, h⟩ := bG h
                  refine XK.st (some 62) rfl rfl (sf_call rfl rfl TT.enters_68 rfl (sim_rlp_Text (sub s1 (v23.2) ((v23.2) + (v23.1))) _ hx40) ?_)
                  refine XK.st (some 63) rfl rfl (sf_move (v := .d (.val (.int .i64 (v23.2)))) rfl rfl ?_)
                  refine XK.st (some 64) rfl rfl (sf_move (v := .d (.val (.int .i64 (v23.1)))) rfl rfl ?_)
                  obtain ⟨c41, h⟩ := gG h
                  refine XK.st (some 65) rfl rfl (sf_add (a := (v23.2)) (b := (v23.1)) rfl rfl rfl c41 ?_)
                  refine XK.st none rfl rfl (sf_stV (l' := [.d (.val (.bool (x39.fList))), .d (.val (sV (x39.fS))), .d (.slice ((x39.fL).map eItem))]) rfl TT.tyA_80 rfl rfl rfl rfl rfl rfl (by simp) rfl ?_)
                  refine XK.st (some 7) rfl rfl (sf_assign (v := .d (.val (.int .i64 ((v23.2) + (v23.1))))) rfl rfl ?_)
                  refine XK.nil (nrm ?_)
                  refine QW.ret (Nat.le_of_ble_eq_true rfl) (thR ?_)
                  obtain rfl := sG h
                  exact EndsS.more (s' := ⟨tab [(6, .vptr 1 0), (7, .d (.val (.int .i64 ((v23.2) + (v23.1)))))], tabH [.var [.d (.val (.int .i64 (c3.fn)))], .var [.d (.val (.bool (x39.fList))), .d (.val (sV (x39.fS))), .d (.slice ((x39.fL).map eItem))]], 2, []⟩) (ps := [.agg [.d (.val (.bool (x39.fList))), .d (.val (sV (x39.fS))), .d (.slice ((x39.fL).map eItem))], .d (.val (.int .i64 ((v23.2) + (v23.1))))]) (.inr rfl) (View.mk 2 [0, 1] _ _ _ rfl rfl (by decide) (And.intro (Imp.of_eq rfl) (And.intro (Imp.of_eq rfl) trivial)) (And.intro rfl (And.intro rfl trivial)) rfl (Nat.le_of_ble_eq_true rfl) rfl) rfl (Nat.le_of_ble_eq_true rfl) (fun i hi => tabH_app [.var [.d (.val (.int .i64 (c3.fn)))]] [.var [.d (.val (.bool (x39.fList))), .d (.val (sV (x39.fS))), .d (.slice ((x39.fL).map eItem))]] i hi) rfl (by simp [HO.idsLts, HO.idsLt, PV.idsLts, PV.idsLt, idsLts_d]) (And.intro (ResIs.cell rfl rfl TT.tyA_80 ⟨⟨by simp, by simp⟩, rfl⟩) (And.intro (ResIs.tmp rfl) trivial)) (by simp [PV.idsLts, PV.idsLt, idsLts_d])
                · refine XK.fp (p := .d (.iface 176 (.agg [.val (.int .i64 e37)]))) (H2 := _) (nx2 := 2) rfl (xcall_frame [] rfl rfl TT.enters_143 (sim_rlp_must ((!decide ((v23.1) = (1 : Int))) || (decide ((128 : Int) ≤ ((idx (sub s1 (v23.2) ((v23.2) + (v23.1))) (0 : Int)).toNat : Int)))) (6) _ hx35) rfl rfl (by decide) trivial (Nat.le_of_ble_eq_true rfl)) rfl rfl rfl (thP (thP ?_))
                  obtain rfl := sG h
                  exact EndsS.pan (s' := ⟨tab [], tabH [.var [.d (.val (.int .i64 (c3.fn)))]], 1, []⟩) (View.mk 1 [0] _ _ _ rfl rfl (by decide) trivial (And.intro rfl trivial) rfl (Nat.le_of_ble_eq_true rfl) rfl) rfl (Nat.le_of_ble_eq_true rfl) (fun i hi => tabH_app [.var [.d (.val (.int .i64 (c3.fn)))]] [] i hi) rfl (by simp [HO.idsLts, HO.idsLt, PV.idsLts, PV.idsLt, idsLts_d])
              · replace h := bGF h hb32
                refine QW.skip (Nat.le_of_ble_eq_true rfl) (nrm ?_)
                refine QW.seq ?_
                refine QW.region (Nat.le_of_ble_eq_true rfl) (PW.regT (by kernel_rfl) ?_)
                refine XK.st (some 66) rfl rfl (sf_bld (v := .agg [.d (.val (.bool true)), .d (.val (sV ([] : List UInt8))), .full (([] : (List Item)).map eItem)]) rfl TT.bldA_80 (build_of rfl (fill_step (cells' := [.d (.val (.bool true)), .d (.val (sV ([] : List UInt8))), .full (([] : (List Item)).map eItem)]) rfl rfl rfl (Nat.le_of_ble_eq_true rfl) rfl fill_nil)) ?_)
                refine XK.st (some 13) rfl rfl (sf_alloc (l := [.d (.val (.bool false)), .d (.val (sV ([] : List UInt8))), .full (([] : (List Item)).map eItem)]) rfl TT.zeroA_80 rfl rfl ?_)
                refine XK.st none rfl rfl (sf_stV (l' := [.d (.val (.bool true)), .d (.val (sV ([] : List UInt8))), .full (([] : (List Item)).map eItem)]) rfl TT.tyA_80 rfl rfl rfl rfl rfl rfl (by simp) rfl ?_)
                refine XK.nil (nrm ?_)
                refine QW.seq ?_
                refine QW.block ?_
                refine QW.loop (fun k σ => ∃ v10_2 : Int, ∃ v11_2 : Int, ∃ v12_2 : (List UInt8), ∃ c0_0_2 : Int, ∃ v13_2 : (List Item), k ≤ k0 ∧ run (step_rlp_counter_get self s1 depth2 c0) k (.L2 v10_2 v11_2 v12_2 c0_0_2 v13_2) = some r ∧ σ = ⟨tab [(0, .vptr 0 0), (2, .d (.val (.int .i64 depth2))), (6, .vptr 1 0), (10, .d (.val (.int .i64 v10_2))), (11, .d (.val (.int .i64 v11_2))), (12, .d (.val (sV v12_2))), (13, .vptr 2 0)], tabH [.var [.d (.val (.int .i64 c0_0_2))], .var [.d (.val (.bool false)), .d (.val (sV ([] : List UInt8))), .full (([] : (List Item)).map eItem)], .var [.d (.val (.bool true)), .d (.val (sV ([] : List UInt8))), .own 3 (v13_2.map eItem)], .spare 3 v13_2.length], 4, []⟩) k0 (Nat.le_of_ble_eq_true rfl) ⟨⟨tab [(0, .vptr 0 0), (2, .d (.val (.int .i64 depth2))), (6, .vptr 1 0), (10, .d (.val (.int .i64 (v23.1)))), (11, .d (.val (.int .i64 (v23.2)))), (12, .d (.val (sV (sub s1 (v23.2) ((v23.2) + (v23.1)))))), (13, .vptr 2 0)], tabH [.var [.d (.val (.int .i64 (c3.fn)))], .var [.d (.val (.bool false)), .d (.val (sV ([] : List UInt8))), .full (([] : (List Item)).map eItem)], .var [.d (.val (.bool true)), .d (.val (sV ([] : List UInt8))), .own 3 (([] : (List Item)).map eItem)], .spare 3 ([] : (List Item)).length], 4, []⟩, View.trans (View.bufV 2 2 3 rfl rfl (Nat.le_of_ble_eq_true rfl)) (View.mk 4 [0, 1, 2, 3] _ _ _ rfl rfl (by decide) (And.intro (Imp.of_eq rfl) (And.intro (Imp.of_eq rfl) (And.intro (Imp.of_eq rfl) (And.intro (Imp.of_eq rfl) (And.intro (Imp.of_eq rfl) (And.intro (Imp.of_eq rfl) (And.intro (Imp.of_eq rfl) trivial))))))) (And.intro rfl (And.intro rfl (And.intro rfl (And.intro rfl trivial)))) rfl (Nat.le_of_ble_eq_true rfl) rfl), v23.1, v23.2, (sub s1 (v23.2) ((v23.2) + (v23.1))), c3.fn, ([] : (List Item)), Nat.le_refl _, jG h, rfl⟩ ?_
                rintro k42s _ ⟨v10_2, v11_2, v12_2, c0_0_2, v13_2, k42h, h, rfl⟩
                obtain ⟨k42, rfl, h9⟩ := run_succ h; replace h := h9; clear h9
                refine QW.seq ?_
                refine QW.seq ?_
                refine QW.region (Nat.le_of_ble_eq_true rfl) (PW.regT (by kernel_rfl) ?_)
                refine XK.st (some 67) rfl rfl (sf_move (v := .d (.val (sV v12_2))) rfl rfl ?_)
                refine XK.st (some 68) rfl rfl (sf_sne (a := v12_2) (b := ([] : List UInt8)) rfl rfl rfl ?_)
                refine XK.nil (nrm ?_)
                refine QW.cond (t := (!(v12_2 == ([] : List UInt8)))) rfl (Nat.le_of_ble_eq_true rfl) (fun hb43 => ?_) (fun hb43 => ?_)
                · replace h := bGT h hb43
                  refine QW.skip (Nat.le_of_ble_eq_true rfl) (nrm ?_)
                  refine QW.block ?_
                  refine QW.seq ?_
                  refine QW.region (Nat.le_of_ble_eq_true rfl) (PW.regT (by kernel_rfl) ?_)
                  refine XK.st (some 70) rfl rfl (sf_move (v := .vptr 0 0) rfl rfl ?_)
                  refine XK.st (some 71) rfl rfl (sf_move (v := .d (.val (sV v12_2))) rfl rfl ?_)
                  refine XK.st (some 72) rfl rfl (sf_move (v := .d (.val (.int .i64 depth2))) rfl rfl ?_)
                  obtain ⟨c44, h⟩ := gG h
                  refine XK.st (some 73) rfl rfl (sf_add (a := depth2) (b := (1 : Int)) rfl rfl rfl c44 ?_)
                  obtain ⟨⟨v50 | e49, c47⟩, hx46, h⟩ := bG h
                  · refine XK.fr (p := .tuple [.agg [.d (.val (.bool ((v50.1).fList))), .d (.val (sV ((v50.1).fS))), .d (.slice (((v50.1).fL).map eItem))], .d (.val (.int .i64 (v50.2)))]) (H2 := putH _ 0 (some (.var [.d (.val (.int .i64 (c47.fn)))]))) (nx2 := 4) (some 74) rfl rfl (xcall_frame [0] rfl rfl TT.enters_130 (hself v12_2 (depth2 + (1 : Int)) (⟨c0_0_2⟩ : counter) _ hx46) rfl rfl (by decide) (And.intro rfl trivial) (Nat.le_of_ble_eq_true rfl)) rfl rfl rfl ?_
                    refine XK.st (some 69) rfl rfl (sf_move (v := .tuple [.agg [.d (.val (.bool ((v50.1).fList))), .d (.val (sV ((v50.1).fS))), .d (.slice (((v50.1).fL).map eItem))], .d (.val (.int .i64 (v50.2)))]) rfl rfl ?_)
                    refine XK.st (some 75) rfl rfl (sf_extractP rfl rfl rfl ?_)
                    refine XK.st (some 76) rfl rfl (sf_extractP rfl rfl rfl ?_)
                    refine XK.st (some 14) rfl rfl (sf_alloc (l := [.d (.val (.bool false)), .d (.val (sV ([] : List UInt8))), .full (([] : (List Item)).map eItem)]) rfl TT.zeroA_80 rfl rfl ?_)
                    refine XK.st none rfl rfl (sf_stV (l' := [.d (.val (.bool ((v50.1).fList))), .d (.val (sV ((v50.1).fS))), .d (.slice (((v50.1).fL).map eItem))]) rfl TT.tyA_80 rfl rfl rfl rfl rfl rfl (by simp) rfl ?_)
                    refine XK.st (some 15) rfl rfl (sf_assign (v := .d (.val (.int .i64 (v50.2)))) rfl rfl ?_)
                    refine XK.nil (nrm ?_)
                    refine QW.seq ?_
                    refine QW.region (Nat.le_of_ble_eq_true rfl) (PW.regT (by kernel_rfl) ?_)
                    refine XK.st (some 77) rfl rfl (sf_fldV rfl TT.fldA_80_2 (by decide) rfl ?_)
                    refine XK.st (some 78) rfl rfl (sf_ldV (v := .own 3 (v13_2.map eItem)) rfl TT.tyA_78 rfl rfl ⟨⟨by simp, by simp⟩, rfl⟩ ?_)
                    refine XK.as (some 79) rfl rfl (sf_ldV (v := .agg [.d (.val (.bool ((v50.1).fList))), .d (.val (sV ((v50.1).fS))), .d (.slice (((v50.1).fL).map eItem))]) rfl TT.tyA_80 rfl rfl ⟨⟨by simp, by simp⟩, rfl⟩ ⟨.d (.agg (cItem (v50.1))), (Imp.toD rfl), ?_⟩)
                    refine XK.st (some 80) rfl rfl (sf_row (en := eItem) (l := ([v50.1] : List Item)) rfl TT.rowA_78 lay_Item (by first | rfl | (simp only [List.map_cons, List.map_nil, eItem_eq]; rfl)) rfl (by decide) (by simp [solids, partsP, evP, PV.solid, putS_at, tab, unS, unT, unC, asCond, Value.oneCell']) ?_)
                    obtain ⟨c51, h⟩ := gG h
                    refine XK.st (some 81) rfl rfl (sf_appO (en := eItem) (l := v13_2) (l2 := ([v50.1] : List Item)) rfl TT.rowA_78 TT.under_78 rfl lay_Item rfl rfl rfl c51 (by decide) ?_)
                    refine XK.st (some 82) rfl rfl (sf_fldV rfl TT.fldA_80_2 (by decide) rfl ?_)
                    refine XK.st none rfl rfl (sf_stV (l' := [.d (.val (.bool true)), .d (.val (sV ([] : List UInt8))), .own 5 ((v13_2 ++ ([v50.1] : List Item)).map eItem)]) rfl TT.tyA_78 rfl rfl rfl rfl rfl rfl (by simp) rfl ?_)
                    refine XK.nil (nrm ?_)
                    refine QW.view (s' := ⟨tab [(0, .vptr 0 0), (2, .d (.val (.int .i64 depth2))), (6, .vptr 1 0), (10, .d (.val (.int .i64 v10_2))), (11, .d (.val (.int .i64 v11_2))), (12, .d (.val (sV v12_2))), (13, .vptr 2 0), (15, .d (.val (.int .i64 (v50.2))))], tabH [.var [.d (.val (.int .i64 (c47.fn)))], .var [.d (.val (.bool false)), .d (.val (sV ([] : List UInt8))), .full (([] : (List Item)).map eItem)], .var [.d (.val (.bool true)), .d (.val (sV ([] : List UInt8))), .own 3 ((v13_2 ++ ([v50.1] : List Item)).map eItem)], .spare 3 (v13_2 ++ ([v50.1] : List Item)).length], 4, []⟩) (View.mk 4 [0, 1, 2, 5] _ _ _ rfl rfl (by decide) (And.intro (Imp.of_eq rfl) (And.intro (Imp.of_eq rfl) (And.intro (Imp.of_eq rfl) (And.intro (Imp.of_eq rfl) (And.intro (Imp.of_eq rfl) (And.intro (Imp.of_eq rfl) (And.intro (Imp.of_eq rfl) (And.intro (Imp.of_eq rfl) trivial)))))))) (And.intro rfl (And.intro rfl (And.intro rfl (And.intro rfl trivial)))) rfl (Nat.le_of_ble_eq_true rfl) rfl) (Nat.le_of_ble_eq_true rfl) ?_
                    refine QW.region (Nat.le_of_ble_eq_true rfl) (PW.regT (by kernel_rfl) ?_)
                    refine XK.st (some 83) rfl rfl (sf_move (v := .d (.val (sV v12_2))) rfl rfl ?_)
                    refine XK.st (some 84) rfl rfl (sf_move (v := .d (.val (.int .i64 (v50.2)))) rfl rfl ?_)
                    obtain ⟨c52, h⟩ := gG h
                    refine XK.st (some 85) rfl rfl (sf_subS (l := v12_2) (a := (v50.2)) (b := (v12_2.length : Int)) rfl TT.under_9 rfl rfl rfl c52 ?_)
                    refine XK.st (some 12) rfl rfl (sf_assign (v := .d (.val (sV (sub v12_2 (v50.2) (v12_2.length : Int))))) rfl rfl ?_)
                    refine XK.nil (blN (nrm ?_))
                    exact ⟨k42, by omega, ⟨tab [(0, .vptr 0 0), (2, .d (.val (.int .i64 depth2))), (6, .vptr 1 0), (10, .d (.val (.int .i64 v10_2))), (11, .d (.val (.int .i64 v11_2))), (12, .d (.val (sV (sub v12_2 (v50.2) (v12_2.length : Int))))), (13, .vptr 2 0)], tabH [.var [.d (.val (.int .i64 (c47.fn)))], .var [.d (.val (.bool false)), .d (.val (sV ([] : List UInt8))), .full (([] : (List Item)).map eItem)], .var [.d (.val (.bool true)), .d (.val (sV ([] : List UInt8))), .own 3 ((v13_2 ++ ([v50.1] : List Item)).map eItem)], .spare 3 (v13_2 ++ ([v50.1] : List Item)).length], 4, []⟩, View.mk 4 [0, 1, 2, 3] _ _ _ rfl rfl (by decide) (And.intro (Imp.of_eq rfl) (And.intro (Imp.of_eq rfl) (And.intro (Imp.of_eq rfl) (And.intro (Imp.of_eq rfl) (And.intro (Imp.of_eq rfl) (And.intro (Imp.of_eq rfl) (And.intro (Imp.of_eq rfl) trivial))))))) (And.intro rfl (And.intro rfl (And.intro rfl (And.intro rfl trivial)))) rfl (Nat.le_of_ble_eq_true rfl) rfl, v10_2, v11_2, (sub v12_2 (v50.2) (v12_2.length : Int)), c47.fn, (v13_2 ++ ([v50.1] : List Item)), by omega, jG h, rfl⟩
                  · refine XK.fp (p := .d (.iface 176 (.agg [.val (.int .i64 e49)]))) (H2 := putH _ 0 (some (.var [.d (.val (.int .i64 (c47.fn)))]))) (nx2 := 4) rfl (xcall_frame [0] rfl rfl TT.enters_130 (hself v12_2 (depth2 + (1 : Int)) (⟨c0_0_2⟩ : counter) _ hx46) rfl rfl (by decide) (And.intro rfl trivial) (Nat.le_of_ble_eq_true rfl)) rfl rfl rfl (thP (blP (thP (blP (thP ?_)))))
                    obtain rfl := sG h
                    exact EndsS.pan (s' := ⟨tab [], tabH [.var [.d (.val (.int .i64 (c47.fn)))]], 1, []⟩) (View.mk 1 [0] _ _ _ rfl rfl (by decide) trivial (And.intro rfl trivial) rfl (Nat.le_of_ble_eq_true rfl) rfl) rfl (Nat.le_of_ble_eq_true rfl) (fun i hi => tabH_app [.var [.d (.val (.int .i64 (c47.fn)))]] [] i hi) rfl (by simp [HO.idsLts, HO.idsLt, PV.idsLts, PV.idsLt, idsLts_d])
                · replace h := bGF h hb43
                  refine QW.exit (Nat.le_of_ble_eq_true rfl) (thX (thX (exE (nrm ?_))))
                  refine QW.seq ?_
                  refine QW.region (Nat.le_of_ble_eq_true rfl) (PW.regT (by kernel_rfl) ?_)
                  refine XK.st (some 86) rfl rfl (sf_ldV (v := .agg [.d (.val (.bool true)), .d (.val (sV ([] : List UInt8))), .own 3 (v13_2.map eItem)]) rfl TT.tyA_80 rfl rfl ⟨⟨by simp, by simp⟩, rfl⟩ ?_)
                  refine XK.st (some 87) rfl rfl (sf_move (v := .d (.val (.int .i64 v11_2))) rfl rfl ?_)
                  refine XK.st (some 88) rfl rfl (sf_move (v := .d (.val (.int .i64 v10_2))) rfl rfl ?_)
                  obtain ⟨c53, h⟩ := gG h
                  refine XK.st (some 89) rfl rfl (sf_add (a := v11_2) (b := v10_2) rfl rfl rfl c53 ?_)
                  refine XK.st none rfl rfl (sf_stV (l' := [.d (.val (.bool true)), .d (.val (sV ([] : List UInt8))), .own 3 (v13_2.map eItem)]) rfl TT.tyA_80 rfl rfl rfl rfl rfl rfl (by simp) rfl ?_)
                  refine XK.st (some 7) rfl rfl (sf_assign (v := .d (.val (.int .i64 (v11_2 + v10_2)))) rfl rfl ?_)
                  refine XK.nil (nrm ?_)
                  refine QW.ret (Nat.le_of_ble_eq_true rfl) ?_
                  obtain rfl := sG h
                  exact EndsS.more (s' := ⟨tab [(6, .vptr 1 0), (7, .d (.val (.int .i64 (v11_2 + v10_2))))], tabH [.var [.d (.val (.int .i64 c0_0_2))], .var [.d (.val (.bool true)), .d (.val (sV ([] : List UInt8))), .d (.slice (v13_2.map eItem))]], 2, []⟩) (ps := [.agg [.d (.val (.bool true)), .d (.val (sV ([] : List UInt8))), .d (.slice (v13_2.map eItem))], .d (.val (.int .i64 (v11_2 + v10_2)))]) (.inr rfl) (View.trans (View.castV 1 2 rfl rfl rfl (Nat.le_of_ble_eq_true rfl)) (View.mk 2 [0, 1] _ _ _ rfl rfl (by decide) (And.intro (Imp.of_eq rfl) (And.intro (Imp.of_eq rfl) trivial)) (And.intro rfl (And.intro rfl trivial)) rfl (Nat.le_of_ble_eq_true rfl) rfl)) rfl (Nat.le_of_ble_eq_true rfl) (fun i hi => tabH_app [.var [.d (.val (.int .i64 c0_0_2))]] [.var [.d (.val (.bool true)), .d (.val (sV ([] : List UInt8))), .d (.slice (v13_2.map eItem))]] i hi) rfl (by simp [HO.idsLts, HO.idsLt, PV.idsLts, PV.idsLt, idsLts_d]) (And.intro (ResIs.cell rfl rfl TT.tyA_80 ⟨⟨by simp, by simp⟩, rfl⟩) (And.intro (ResIs.tmp rfl) trivial)) (by simp [PV.idsLts, PV.idsLt, idsLts_d])
            · refine XK.fp (p := .d (.iface 176 (.agg [.val (.int .i64 e28)]))) (H2 := _) (nx2 := 2) rfl (xcall_frame [] rfl rfl TT.enters_143 (sim_rlp_must (decide ((v23.1) ≤ ((s1.length : Int) - (v23.2)))) (5) _ hx26) rfl rfl (by decide) trivial (Nat.le_of_ble_eq_true rfl)) rfl rfl rfl (thP ?_)
              obtain rfl := sG h
              exact EndsS.pan (s' := ⟨tab [], tabH [.var [.d (.val (.int .i64 (c3.fn)))]], 1, []⟩) (View.mk 1 [0] _ _ _ rfl rfl (by decide) trivial (And.intro rfl trivial) rfl (Nat.le_of_ble_eq_true rfl) rfl) rfl (Nat.le_of_ble_eq_true rfl) (fun i hi => tabH_app [.var [.d (.val (.int .i64 (c3.fn)))]] [] i hi) rfl (by simp [HO.idsLts, HO.idsLt, PV.idsLts, PV.idsLt, idsLts_d])
          · refine XK.fp (p := .d (.iface 176 (.agg [.val (.int .i64 e22)]))) (H2 := _) (nx2 := 2) rfl (xcall_frame [] rfl rfl TT.enters_144 (sim_rlp_length s1 v9 _ hx20) rfl rfl (by decide) trivial (Nat.le_of_ble_eq_true rfl)) rfl rfl rfl (thP ?_)
            obtain rfl := sG h
            exact EndsS.pan (s' := ⟨tab [], tabH [.var [.d (.val (.int .i64 (c3.fn)))]], 1, []⟩) (View.mk 1 [0] _ _ _ rfl rfl (by decide) trivial (And.intro rfl trivial) rfl (Nat.le_of_ble_eq_true rfl) rfl) rfl (Nat.le_of_ble_eq_true rfl) (fun i hi => tabH_app [.var [.d (.val (.int .i64 (c3.fn)))]] [] i hi) rfl (by simp [HO.idsLts, HO.idsLt, PV.idsLts, PV.idsLt, idsLts_d])
    · refine XK.fp (p := .d (.iface 176 (.agg [.val (.int .i64 e10)]))) (H2 := _) (nx2 := 2) rfl (xcall_frame [] rfl rfl TT.enters_143 (sim_rlp_must (!(s1 == ([] : List UInt8))) (5) _ hx8) rfl rfl (by decide) trivial (Nat.le_of_ble_eq_true rfl)) rfl rfl rfl (thP ?_)
      obtain rfl := sG h
      exact EndsS.pan (s' := ⟨tab [], tabH [.var [.d (.val (.int .i64 (c3.fn)))]], 1, []⟩) (View.mk 1 [0] _ _ _ rfl rfl (by decide) trivial (And.intro rfl trivial) rfl (Nat.le_of_ble_eq_true rfl) rfl) rfl (Nat.le_of_ble_eq_true rfl) (fun i hi => tabH_app [.var [.d (.val (.int .i64 (c3.fn)))]] [] i hi) rfl (by simp [HO.idsLts, HO.idsLt, PV.idsLts, PV.idsLt, idsLts_d])
  · refine XK.fp (p := .d (.iface 176 (.agg [.val (.int .i64 e5)]))) (H2 := putH _ 0 (some (.var [.d (.val (.int .i64 (c3.fn)))]))) (nx2 := 2) rfl (xcall_frame [0] rfl rfl TT.enters_142 (sim_rlp_counter_one depth2 c0 _ hx2) rfl rfl (by decide) (And.intro rfl trivial) (Nat.le_of_ble_eq_true rfl)) rfl rfl rfl (thP ?_)
    obtain rfl := sG h
    exact EndsS.pan (s' := ⟨tab [], tabH [.var [.d (.val (.int .i64 (c3.fn)))]], 1, []⟩) (View.mk 1 [0] _ _ _ rfl rfl (by decide) trivial (And.intro rfl trivial) rfl (Nat.le_of_ble_eq_true rfl) rfl) rfl (Nat.le_of_ble_eq_true rfl) (fun i hi => tabH_app [.var [.d (.val (.int .i64 (c3.fn)))]] [] i hi) rfl (by simp [HO.idsLts, HO.idsLt, PV.idsLts, PV.idsLt, idsLts_d])

noncomputable def rec_rlp_counter_get : Nat → (List UInt8) → Int → counter → Option (((Item × Int) ⊕ Int) × counter)
  | 0 => fun _ _ _ => none
  | n + 1 => fun y0 y1 y2 => gs_rlp_counter_get (rec_rlp_counter_get n) y0 y1 y2

theorem simr_rlp_counter_get : ∀ (n : Nat) (y0 : (List UInt8)) (y1 : Int) (y2 : counter) (rr : (((Item × Int) ⊕ Int) × counter)), rec_rlp_counter_get n y0 y1 y2 = some rr → Spec Try.prog 130 [.vptr 0 0, .d (.val (sV y0)), .d (.val (.int .i64 y1))] (tabH [.var [.d (.val (.int .i64 (y2.fn)))]]) 1 (postX (match rr.1 with | .inl x => Out.ret (.tuple [.agg [.d (.val (.bool ((x.1).fList))), .d (.val (sV ((x.1).fS))), .d (.slice (((x.1).fL).map eItem))], .d (.val (.int .i64 (x.2)))]) | .inr e => Out.pan (.d (.iface 176 (.agg [.val (.int .i64 e)])))) (tabH [.var [.d (.val (.int .i64 ((rr.2).fn)))]]) 1)
  | 0, _, _, _, _, h => by cases h
  | n + 1, y0, y1, y2, rr, h => sims_rlp_counter_get (rec_rlp_counter_get n) (simr_rlp_counter_get n) y0 y1 y2 rr h

noncomputable def g_rlp_counter_get (y0 : (List UInt8)) (y1 : Int) (y2 : counter) : Option (((Item × Int) ⊕ Int) × counter) := theR (fun n => rec_rlp_counter_get n y0 y1 y2)

theorem sim_rlp_counter_get (y0 : (List UInt8)) (y1 : Int) (y2 : counter) (rr : (((Item × Int) ⊕ Int) × counter)) (h : g_rlp_counter_get y0 y1 y2 = some rr) : Spec Try.prog 130 [.vptr 0 0, .d (.val (sV y0)), .d (.val (.int .i64 y1))] (tabH [.var [.d (.val (.int .i64 (y2.fn)))]]) 1 (postX (match rr.1 with | .inl x => Out.ret (.tuple [.agg [.d (.val (.bool ((x.1).fList))), .d (.val (sV ((x.1).fS))), .d (.slice (((x.1).fL).map eItem))], .d (.val (.int .i64 (x.2)))]) | .inr e => Out.pan (.d (.iface 176 (.agg [.val (.int .i64 e)])))) (tabH [.var [.d (.val (.int .i64 ((rr.2).fn)))]]) 1) := by
  obtain ⟨n, hn⟩ := theR_get h
  exact simr_rlp_counter_get n y0 y1 y2 rr hn

set_option maxRecDepth 20000 in
theorem caught_none_rlp_caught (e0 : Int) : DLaw Try.prog 128 [.vptr 0 0] [.var [.d (.val (.int .i64 e0))]] none [.var [.d (.val (.int .i64 e0))]] := by
  refine DLaw.of_body (r := .tuple []) none Try.func128 rfl rfl rfl rfl rfl rfl rfl rfl (by simp [Try.ntmps128]) (by simp [Try.ntmps128]) (by simp [Try.ntmps128]) ?_
  rw [Try.ntmps128, TT.res_128]
  refine QW.view (s' := ⟨tab [(0, .vptr 0 0), (2, .d (.val .nilIface)), (5, .d (.val .nilIface))], tabH [.var [.d (.val (.int .i64 e0))]], 1, []⟩) (View.mk 1 [0] _ _ _ rfl rfl (by decide) (And.intro (Imp.of_eq rfl) (And.intro (Imp.of_eq rfl) (And.intro (Imp.of_eq rfl) trivial))) (And.intro rfl trivial) rfl (Nat.le_of_ble_eq_true rfl) rfl) (Nat.le_of_ble_eq_true rfl) ?_
  refine QW.seq ?_
  refine QW.seq ?_
  refine QW.region (Nat.le_of_ble_eq_true rfl) (PW.regT (by kernel_rfl) ?_)
  refine XK.st (some 6) rfl rfl (sf_move (v := .d (.val .nilIface)) rfl rfl ?_)
  refine XK.pr (v := .d (.val (.bool true))) (some 7) rfl rfl (pr_nilnil rfl TT.under_20 rfl) ?_
  refine XK.nil (nrm ?_)
  refine QW.condT rfl ?_
  refine QW.ret (Nat.le_of_ble_eq_true rfl) (thR ?_)
  exact EndsV.none (s' := ⟨tab [], tabH [.var [.d (.val (.int .i64 e0))]], 1, []⟩) (.inr rfl) (View.mk 1 [0] _ _ _ rfl rfl (by decide) trivial (And.intro rfl trivial) rfl (Nat.le_of_ble_eq_true rfl) rfl) rfl rfl rfl

set_option maxRecDepth 20000 in
theorem caught_some_rlp_caught (e0 e : Int) : DLaw Try.prog 128 [.vptr 0 0] [.var [.d (.val (.int .i64 e0))]] (some (.iface 176 (.agg [.val (.int .i64 e)]))) [.var [.d (.val (.int .i64 e))]] := by
  refine DLaw.of_body (r := .tuple []) (some (.iface 176 (.agg [.val (.int .i64 e)]))) Try.func128 rfl rfl rfl rfl rfl rfl rfl rfl (by simp [Try.ntmps128]) (by simp [Try.ntmps128]) (by simp [Try.ntmps128]) ?_
  rw [Try.ntmps128, TT.res_128]
  refine QW.view (s' := ⟨tab [(0, .vptr 0 0), (2, .d (.iface 176 (.agg [.val (.int .i64 e)]))), (5, .d (.iface 176 (.agg [.val (.int .i64 e)])))], tabH [.var [.d (.val (.int .i64 e0))]], 1, []⟩) (View.mk 1 [0] _ _ _ rfl rfl (by decide) (And.intro (Imp.of_eq rfl) (And.intro (Imp.of_eq rfl) (And.intro (Imp.of_eq rfl) trivial))) (And.intro rfl trivial) rfl (Nat.le_of_ble_eq_true rfl) rfl) (Nat.le_of_ble_eq_true rfl) ?_
  refine QW.seq ?_
  refine QW.seq ?_
  refine QW.region (Nat.le_of_ble_eq_true rfl) (PW.regT (by kernel_rfl) ?_)
  refine XK.st (some 6) rfl rfl (sf_move (v := .d (.iface 176 (.agg [.val (.int .i64 e)]))) rfl rfl ?_)
  refine XK.st (some 7) rfl rfl (sf_ifnil rfl TT.under_20 rfl rfl ?_)
  refine XK.nil (nrm ?_)
  refine QW.condF rfl ?_
  refine QW.skip (Nat.le_of_ble_eq_true rfl) (nrm ?_)
  refine QW.seq ?_
  refine QW.region (Nat.le_of_ble_eq_true rfl) (PW.regT (by kernel_rfl) ?_)
  refine XK.st (some 9) rfl rfl (sf_move (v := .d (.iface 176 (.agg [.val (.int .i64 e)]))) rfl rfl ?_)
  refine XK.pr (v := .d (.tuple [.agg (cfail (⟨e⟩ : fail)), .val (.bool true)])) (some 10) rfl rfl (pr_assert' TT.ifaceOK_176 rfl rfl) ?_
  refine XK.st (some 8) rfl rfl (sf_move (v := .d (.tuple [.agg (cfail (⟨e⟩ : fail)), .val (.bool true)])) rfl rfl ?_)
  refine XK.st (some 11) rfl rfl (sf_extract (d := .agg (cfail (⟨e⟩ : fail))) rfl rfl rfl ?_)
  refine XK.st (some 12) rfl rfl (sf_extract (d := .val (.bool true)) rfl rfl rfl ?_)
  refine XK.st (some 3) rfl rfl (sf_alloc (l := [.d (.val (.int .i64 (0)))]) rfl TT.zeroA_176 rfl rfl ?_)
  refine XK.st none rfl rfl (sf_stV (l' := [.d (.val (.int .i64 e))]) rfl TT.tyA_176 rfl rfl rfl rfl rfl rfl (by simp) rfl ?_)
  refine XK.st (some 4) rfl rfl (sf_assign (v := .d (.val (.bool true))) rfl rfl ?_)
  refine XK.nil (nrm ?_)
  refine QW.seq ?_
  refine QW.region (Nat.le_of_ble_eq_true rfl) (PW.regT (by kernel_rfl) ?_)
  refine XK.st (some 13) rfl rfl (sf_move (v := .vptr 0 0) rfl rfl ?_)
  refine XK.st (some 14) rfl rfl (sf_nilCheck (v := .vptr 0 0) rfl rfl rfl ?_)
  refine XK.st none rfl rfl (sf_stV (l' := [.d (.val (.int .i64 (2)))]) rfl TT.tyA_42 rfl rfl rfl rfl rfl rfl (by simp) rfl ?_)
  refine XK.nil (nrm ?_)
  refine QW.seq ?_
  refine QW.region (Nat.le_of_ble_eq_true rfl) (PW.regT (by kernel_rfl) ?_)
  refine XK.st (some 15) rfl rfl (sf_move (v := .d (.val (.bool true))) rfl rfl ?_)
  refine XK.nil (nrm ?_)
  refine QW.condT rfl ?_
  refine QW.region (Nat.le_of_ble_eq_true rfl) (PW.regT (by kernel_rfl) ?_)
  refine XK.st (some 16) rfl rfl (sf_move (v := .vptr 0 0) rfl rfl ?_)
  refine XK.st (some 17) rfl rfl (sf_fldV rfl TT.fldA_176_0 (by decide) rfl ?_)
  refine XK.st (some 18) rfl rfl (sf_ldV (v := .d (.val (.int .i64 e))) rfl TT.tyA_42 rfl rfl ⟨⟨by simp, by simp⟩, rfl⟩ ?_)
  refine XK.st (some 19) rfl rfl (sf_nilCheck (v := .vptr 0 0) rfl rfl rfl ?_)
  refine XK.st none rfl rfl (sf_stV (l' := [.d (.val (.int .i64 e))]) rfl TT.tyA_42 rfl rfl rfl rfl rfl rfl (by simp) rfl ?_)
  refine XK.nil ?_
  exact EndsV.none (s' := ⟨tab [], tabH [.var [.d (.val (.int .i64 e))]], 1, []⟩) (.inl rfl) (View.mk 1 [0] _ _ _ rfl rfl (by decide) trivial (And.intro rfl trivial) rfl (Nat.le_of_ble_eq_true rfl) rfl) rfl rfl rfl

noncomputable def g_rlp_Put (x0 : Item) : Option ((List UInt8) × Int) :=
    ((g_rlp_counter_put x0 (0) (⟨0⟩ : counter)).bind fun xx => match xx with
    | (.inl v6, c3) =>
        some (v6, 0)
    | (.inr e5, c3) =>
        some (([] : List UInt8), e5))

set_option maxRecDepth 20000 in
set_option maxHeartbeats 4000000 in
theorem sim_rlp_Put (x0 : Item) (r : ((List UInt8) × Int)) (h : g_rlp_Put x0 = some r) : Fun Try.prog 102 [.agg (cItem x0)] (.tuple [.val (sV (r.1)), .val (.int .i64 (r.2))]) := by
  refine Fun.of_bodyD Try.func102 rfl (by simp [Try.ntmps102]) TT.enters_128 ?_
  rw [Try.ntmps102, TT.res_102]
  refine QW.view (s' := ⟨tab [(0, .d (.agg (cItem x0)))], tabH [], 0, []⟩) (View.init (by rfl)) (Nat.zero_le _) ?_
  unfold g_rlp_Put at h
  refine QW.seq ?_
  refine QW.region (Nat.zero_le _) (PW.regT (by kernel_rfl) ?_)
  refine XK.fz (some 1) rfl rfl (sf_boxF (ds := cItem x0) rfl rfl rfl rfl rfl ?_)
  refine XK.st (some 2) rfl rfl (sf_assign (v := .d (.val (sV ([] : List UInt8)))) rfl rfl ?_)
  refine XK.st (some 3) rfl rfl (sf_alloc (l := [.d (.val (.int .i64 (0)))]) rfl TT.zeroA_42 rfl rfl ?_)
  refine XK.nil (nrm ?_)
  refine QW.seq ?_
  refine QW.region (Nat.zero_le _) (PW.regT (by kernel_rfl) ?_)
  refine XK.df (L := [.vptr 0 0]) none rfl rfl rfl rfl rfl ?_
  refine XK.nil (nrm ?_)
  refine QW.seq ?_
  refine QW.region (Nat.zero_le _) (PW.regT (by kernel_rfl) ?_)
  refine XK.st (some 4) rfl rfl (sf_alloc (l := [.d (.val (.int .i64 (0)))]) rfl TT.zeroA_162 rfl rfl ?_)
  refine XK.st (some 5) rfl rfl (sf_ldC (d := .agg (cItem x0)) rfl TT.tyA_80 rfl (⟨by simp [cItem], rfl⟩) ?_)
  obtain ⟨⟨v6 | e5, c3⟩, hx2, h⟩ := bO h
  · refine XK.fr (p := .d (.val (sV v6))) (H2 := putH _ 1 (some (.var [.d (.val (.int .i64 (c3.fn)))]))) (nx2 := 2) (some 6) rfl rfl (xcall_frame [1] rfl rfl TT.enters_129 (sim_rlp_counter_put x0 (0) (⟨0⟩ : counter) _ hx2) rfl rfl (by decide) (And.intro rfl trivial) (Nat.le_of_ble_eq_true rfl)) rfl rfl rfl ?_
    refine XK.st (some 2) rfl rfl (sf_assign (v := .d (.val (sV v6))) rfl rfl ?_)
    refine XK.nil (nrm ?_)
    refine QW.seq ?_
    refine QW.region (Nat.zero_le _) (PW.regT (by kernel_rfl) ?_)
    refine XK.st (some 7) rfl rfl (sf_move (v := .d (.val (sV v6))) rfl rfl ?_)
    refine XK.st (some 2) rfl rfl (sf_assign (v := .d (.val (sV v6))) rfl rfl ?_)
    refine XK.st none rfl rfl (sf_stV (l' := [.d (.val (.int .i64 (0)))]) rfl TT.tyA_42 rfl rfl rfl rfl rfl rfl (by simp) rfl ?_)
    refine XK.nil (nrm ?_)
    refine QW.ret (Nat.zero_le _) ?_
    obtain rfl := sO h
    exact EndsD.more [.d (.val (sV v6)), .d (.val (.int .i64 (0)))] 0 (.d (.val (.int .i64 (0)))) (.d (.val (.int .i64 (0)))) none rfl rfl (caught_none_rlp_caught 0) rfl rfl rfl (And.intro (ResIs.tmp rfl) (And.intro (ResIs.cell rfl rfl TT.tyA_42 ⟨⟨by simp, by simp⟩, rfl⟩) trivial)) rfl
  · refine XK.fp (p := .d (.iface 176 (.agg [.val (.int .i64 e5)]))) (H2 := putH _ 1 (some (.var [.d (.val (.int .i64 (c3.fn)))]))) (nx2 := 2) rfl (xcall_frame [1] rfl rfl TT.enters_129 (sim_rlp_counter_put x0 (0) (⟨0⟩ : counter) _ hx2) rfl rfl (by decide) (And.intro rfl trivial) (Nat.le_of_ble_eq_true rfl)) rfl rfl rfl (thP ?_)
    obtain rfl := sO h
    exact EndsD.more [.d (.val (sV ([] : List UInt8))), .d (.val (.int .i64 e5))] 0 (.d (.val (.int .i64 (0)))) (.d (.val (.int .i64 e5))) (some (.iface 176 (.agg [.val (.int .i64 e5)]))) rfl rfl (caught_some_rlp_caught 0 e5) rfl rfl (⟨_, rfl, rfl⟩) (And.intro (ResIs.tmp rfl) (And.intro (ResIs.cell rfl rfl TT.tyA_42 ⟨⟨by simp, by simp⟩, rfl⟩) trivial)) rfl

noncomputable def g_rlp_Get (s0 : (List UInt8)) : Option (Item × Int × Int) :=
    ((g_rlp_counter_get s0 (0) (⟨0⟩ : counter)).bind fun xx => match xx with
    | (.inl v6, c3) =>
        some (v6.1, v6.2, 0)
    | (.inr e5, c3) =>
        some ((⟨false, ([] : List UInt8), ([] : (List Item))⟩ : Item), 0, e5))

set_option maxRecDepth 20000 in
set_option maxHeartbeats 4000000 in
theorem sim_rlp_Get (s0 : (List UInt8)) (r : (Item × Int × Int)) (h : g_rlp_Get s0 = some r) : Fun Try.prog 104 [.val (sV s0)] (.tuple [.agg (cItem (r.1)), .val (.int .i64 (r.2.1)), .val (.int .i64 (r.2.2))]) := by
  refine Fun.of_bodyD Try.func104 rfl (by simp [Try.ntmps104]) TT.enters_128 ?_
  rw [Try.ntmps104, TT.res_104]
  refine QW.view (s' := ⟨tab [(0, .d (.val (sV s0)))], tabH [], 0, []⟩) (View.init (by rfl)) (Nat.zero_le _) ?_
  unfold g_rlp_Get at h
  refine QW.seq ?_
  refine QW.region (Nat.zero_le _) (PW.regT (by kernel_rfl) ?_)
  refine XK.st (some 2) rfl rfl (sf_alloc (l := [.d (.val (.bool false)), .d (.val (sV ([] : List UInt8))), .full (([] : (List Item)).map eItem)]) rfl TT.zeroA_80 rfl rfl ?_)
  refine XK.st (some 3) rfl rfl (sf_assign (v := .d (.val (.int .i64 (0)))) rfl rfl ?_)
  refine XK.st (some 4) rfl rfl (sf_alloc (l := [.d (.val (.int .i64 (0)))]) rfl TT.zeroA_42 rfl rfl ?_)
  refine XK.nil (nrm ?_)
  refine QW.seq ?_
  refine QW.region (Nat.zero_le _) (PW.regT (by kernel_rfl) ?_)
  refine XK.df (L := [.vptr 1 0]) none rfl rfl rfl rfl rfl ?_
  refine XK.nil (nrm ?_)
  refine QW.seq ?_
  refine QW.region (Nat.zero_le _) (PW.regT (by kernel_rfl) ?_)
  refine XK.st (some 6) rfl rfl (sf_alloc (l := [.d (.val (.int .i64 (0)))]) rfl TT.zeroA_162 rfl rfl ?_)
  refine XK.st (some 7) rfl rfl (sf_move (v := .d (.val (sV s0))) rfl rfl ?_)
  obtain ⟨⟨v6 | e5, c3⟩, hx2, h⟩ := bO h
  · refine XK.fr (p := .tuple [.agg [.d (.val (.bool ((v6.1).fList))), .d (.val (sV ((v6.1).fS))), .d (.slice (((v6.1).fL).map eItem))], .d (.val (.int .i64 (v6.2)))]) (H2 := putH _ 2 (some (.var [.d (.val (.int .i64 (c3.fn)))]))) (nx2 := 3) (some 8) rfl rfl (xcall_frame [2] rfl rfl TT.enters_130 (sim_rlp_counter_get s0 (0) (⟨0⟩ : counter) _ hx2) rfl rfl (by decide) (And.intro rfl trivial) (Nat.le_of_ble_eq_true rfl)) rfl rfl rfl ?_
    refine XK.st (some 5) rfl rfl (sf_move (v := .tuple [.agg [.d (.val (.bool ((v6.1).fList))), .d (.val (sV ((v6.1).fS))), .d (.slice (((v6.1).fL).map eItem))], .d (.val (.int .i64 (v6.2)))]) rfl rfl ?_)
    refine XK.st (some 9) rfl rfl (sf_extractP rfl rfl rfl ?_)
    refine XK.st (some 10) rfl rfl (sf_extractP rfl rfl rfl ?_)
    refine XK.st none rfl rfl (sf_stV (l' := [.d (.val (.bool ((v6.1).fList))), .d (.val (sV ((v6.1).fS))), .d (.slice (((v6.1).fL).map eItem))]) rfl TT.tyA_80 rfl rfl rfl rfl rfl rfl (by simp) rfl ?_)
    refine XK.st (some 3) rfl rfl (sf_assign (v := .d (.val (.int .i64 (v6.2)))) rfl rfl ?_)
    refine XK.nil (nrm ?_)
    refine QW.seq ?_
    refine QW.region (Nat.zero_le _) (PW.regT (by kernel_rfl) ?_)
    refine XK.as (some 11) rfl rfl (sf_ldV (v := .agg [.d (.val (.bool ((v6.1).fList))), .d (.val (sV ((v6.1).fS))), .d (.slice (((v6.1).fL).map eItem))]) rfl TT.tyA_80 rfl rfl ⟨⟨by simp, by simp⟩, rfl⟩ ⟨.d (.agg (cItem (v6.1))), (Imp.toD rfl), ?_⟩)
    refine XK.st (some 12) rfl rfl (sf_move (v := .d (.val (.int .i64 (v6.2)))) rfl rfl ?_)
    refine XK.st none rfl rfl (sf_stV (l' := [.d (.val (.bool ((v6.1).fList))), .d (.val (sV ((v6.1).fS))), .d (.slice (((v6.1).fL).map eItem))]) rfl TT.tyA_80 rfl rfl rfl rfl rfl rfl (by simp) rfl ?_)
    refine XK.st (some 3) rfl rfl (sf_assign (v := .d (.val (.int .i64 (v6.2)))) rfl rfl ?_)
    refine XK.st none rfl rfl (sf_stV (l' := [.d (.val (.int .i64 (0)))]) rfl TT.tyA_42 rfl rfl rfl rfl rfl rfl (by simp) rfl ?_)
    refine XK.nil (nrm ?_)
    refine QW.ret (Nat.zero_le _) ?_
    obtain rfl := sO h
    exact EndsD.more [.agg [.d (.val (.bool ((v6.1).fList))), .d (.val (sV ((v6.1).fS))), .d (.slice (((v6.1).fL).map eItem))], .d (.val (.int .i64 (v6.2))), .d (.val (.int .i64 (0)))] 1 (.d (.val (.int .i64 (0)))) (.d (.val (.int .i64 (0)))) none rfl rfl (caught_none_rlp_caught 0) rfl rfl rfl (And.intro (ResIs.cell rfl rfl TT.tyA_80 ⟨⟨by simp, by simp⟩, rfl⟩) (And.intro (ResIs.tmp rfl) (And.intro (ResIs.cell rfl rfl TT.tyA_42 ⟨⟨by simp, by simp⟩, rfl⟩) trivial))) rfl
  · refine XK.fp (p := .d (.iface 176 (.agg [.val (.int .i64 e5)]))) (H2 := putH _ 2 (some (.var [.d (.val (.int .i64 (c3.fn)))]))) (nx2 := 3) rfl (xcall_frame [2] rfl rfl TT.enters_130 (sim_rlp_counter_get s0 (0) (⟨0⟩ : counter) _ hx2) rfl rfl (by decide) (And.intro rfl trivial) (Nat.le_of_ble_eq_true rfl)) rfl rfl rfl (thP ?_)
    obtain rfl := sO h
    exact EndsD.more [.agg [.d (.val (.bool false)), .d (.val (sV ([] : List UInt8))), .full (([] : (List Item)).map eItem)], .d (.val (.int .i64 (0))), .d (.val (.int .i64 e5))] 1 (.d (.val (.int .i64 (0)))) (.d (.val (.int .i64 e5))) (some (.iface 176 (.agg [.val (.int .i64 e5)]))) rfl rfl (caught_some_rlp_caught 0 e5) rfl rfl (⟨_, rfl, rfl⟩) (And.intro (ResIs.cell rfl rfl TT.tyA_80 ⟨⟨by simp, by simp⟩, rfl⟩) (And.intro (ResIs.tmp rfl) (And.intro (ResIs.cell rfl rfl TT.tyA_42 ⟨⟨by simp, by simp⟩, rfl⟩) trivial))) rfl

noncomputable def g_rlp_Whole (s0 : (List UInt8)) : Option (Item × Int) :=
    ((g_rlp_Get s0).bind fun (x1 : (Item × Int × Int)) =>
    (bif (!decide ((x1.2.2) = (0 : Int))) then
    some ((⟨false, ([] : List UInt8), ([] : (List Item))⟩ : Item), x1.2.2)
    else
    (bif (!decide ((x1.2.1) = (s0.length : Int))) then
    some ((⟨false, ([] : List UInt8), ([] : (List Item))⟩ : Item), 6)
    else
    some (x1.1, 0))))

set_option maxRecDepth 20000 in
set_option maxHeartbeats 4000000 in
theorem sim_rlp_Whole (s0 : (List UInt8)) (r : (Item × Int)) (h : g_rlp_Whole s0 = some r) : Fun Try.prog 103 [.val (sV s0)] (.tuple [.agg (cItem (r.1)), .val (.int .i64 (r.2))]) := by
  refine Fun.of_bodyQ Try.func103 rfl (by simp [Try.ntmps103]) ?_
  rw [Try.ntmps103, TT.res_103]
  refine QW.view (s' := ⟨tab [(0, .d (.val (sV s0)))], tabH [], 0, []⟩) (View.init (by rfl)) (Nat.zero_le _) ?_
  unfold g_rlp_Whole at h
  refine QW.seq ?_
  refine QW.region (Nat.zero_le _) (PW.regT (by kernel_rfl) ?_)
  refine XK.st (some 2) rfl rfl (sf_alloc (l := [.d (.val (.bool false)), .d (.val (sV ([] : List UInt8))), .full (([] : (List Item)).map eItem)]) rfl TT.zeroA_80 rfl rfl ?_)
  refine XK.st (some 3) rfl rfl (sf_assign (v := .d (.val (.int .i64 (0)))) rfl rfl ?_)
  refine XK.nil (nrm ?_)
  refine QW.seq ?_
  refine QW.region (Nat.zero_le _) (PW.regT (by kernel_rfl) ?_)
  refine XK.st (some 8) rfl rfl (sf_move (v := .d (.val (sV s0))) rfl rfl ?_)
  obtain ⟨x1, hx2, h⟩ := bO h
  refine XK.st (some 9) rfl rfl (sf_call rfl rfl TT.enters_104 rfl (sim_rlp_Get s0 _ hx2) ?_)
  refine XK.st (some 7) rfl rfl (sf_move (v := .d (.tuple [.agg (cItem (x1.1)), .val (.int .i64 (x1.2.1)), .val (.int .i64 (x1.2.2))])) rfl rfl ?_)
  refine XK.st (some 10) rfl rfl (sf_extract rfl rfl rfl ?_)
  refine XK.st (some 11) rfl rfl (sf_extract rfl rfl rfl ?_)
  refine XK.st (some 12) rfl rfl (sf_extract rfl rfl rfl ?_)
  refine XK.st (some 4) rfl rfl (sf_alloc (l := [.d (.val (.bool false)), .d (.val (sV ([] : List UInt8))), .full (([] : (List Item)).map eItem)]) rfl TT.zeroA_80 rfl rfl ?_)
  refine XK.st none rfl rfl (sf_stV (l' := [.d (.val (.bool ((x1.1).fList))), .d (.val (sV ((x1.1).fS))), .d (.slice (((x1.1).fL).map eItem))]) rfl TT.tyA_80 rfl rfl rfl rfl rfl rfl (by simp) rfl ?_)
  refine XK.st (some 5) rfl rfl (sf_assign (v := .d (.val (.int .i64 (x1.2.1)))) rfl rfl ?_)
  refine XK.st (some 6) rfl rfl (sf_assign (v := .d (.val (.int .i64 (x1.2.2)))) rfl rfl ?_)
  refine XK.nil (nrm ?_)
  refine QW.seq ?_
  refine QW.block ?_
  refine QW.seq ?_
  refine QW.region (Nat.zero_le _) (PW.regT (by kernel_rfl) ?_)
  refine XK.st (some 14) rfl rfl (sf_move (v := .d (.val (.int .i64 (x1.2.2)))) rfl rfl ?_)
  refine XK.st (some 15) rfl rfl (sf_ne (a := (x1.2.2)) (b := (0 : Int)) rfl rfl rfl ?_)
  refine XK.st (some 13) rfl rfl (sf_assign (v := .d (.val (.bool (!decide ((x1.2.2) = (0 : Int)))))) rfl rfl ?_)
  refine XK.nil (nrm ?_)
  refine QW.cond (t := (!decide ((x1.2.2) = (0 : Int)))) rfl (Nat.zero_le _) (fun hb3 => ?_) (fun hb3 => ?_)
  · replace h := bT h hb3
    refine QW.seq ?_
    refine QW.region (Nat.zero_le _) (PW.regT (by kernel_rfl) ?_)
    refine XK.st (some 16) rfl rfl (sf_bld (v := .agg [.d (.val (.bool false)), .d (.val (sV ([] : List UInt8))), .full (([] : (List Item)).map eItem)]) rfl TT.bldA_80 (build_of rfl fill_nil) ?_)
    refine XK.st (some 17) rfl rfl (sf_move (v := .d (.val (.int .i64 (x1.2.2)))) rfl rfl ?_)
    refine XK.st none rfl rfl (sf_stV (l' := [.d (.val (.bool false)), .d (.val (sV ([] : List UInt8))), .full (([] : (List Item)).map eItem)]) rfl TT.tyA_80 rfl rfl rfl rfl rfl rfl (by simp) rfl ?_)
    refine XK.st (some 3) rfl rfl (sf_assign (v := .d (.val (.int .i64 (x1.2.2)))) rfl rfl ?_)
    refine XK.nil (nrm ?_)
    refine QW.ret (Nat.zero_le _) (blR (thR ?_))
    obtain rfl := sO h
    exact Ends.more (.inr rfl) rfl (ps := [.agg [.d (.val (.bool false)), .d (.val (sV ([] : List UInt8))), .full (([] : (List Item)).map eItem)], .d (.val (.int .i64 (x1.2.2)))]) (And.intro (ResIs.cell rfl rfl TT.tyA_80 ⟨⟨by simp, by simp⟩, rfl⟩) (And.intro (ResIs.tmp rfl) trivial)) rfl rfl
  · replace h := bF h hb3
    refine QW.seq ?_
    refine QW.region (Nat.zero_le _) (PW.regT (by kernel_rfl) ?_)
    refine XK.st (some 19) rfl rfl (sf_move (v := .d (.val (.int .i64 (x1.2.1)))) rfl rfl ?_)
    refine XK.st (some 20) rfl rfl (sf_move (v := .d (.val (sV s0))) rfl rfl ?_)
    refine XK.st (some 21) rfl rfl (sf_lenS (l := s0) rfl TT.under_9 rfl ?_)
    refine XK.st (some 22) rfl rfl (sf_ne (a := (x1.2.1)) (b := (s0.length : Int)) rfl rfl rfl ?_)
    refine XK.st (some 18) rfl rfl (sf_assign (v := .d (.val (.bool (!decide ((x1.2.1) = (s0.length : Int)))))) rfl rfl ?_)
    refine XK.nil (nrm ?_)
    refine QW.cond (t := (!decide ((x1.2.1) = (s0.length : Int)))) rfl (Nat.zero_le _) (fun hb4 => ?_) (fun hb4 => ?_)
    · replace h := bT h hb4
      refine QW.seq ?_
      refine QW.region (Nat.zero_le _) (PW.regT (by kernel_rfl) ?_)
      refine XK.st (some 23) rfl rfl (sf_bld (v := .agg [.d (.val (.bool false)), .d (.val (sV ([] : List UInt8))), .full (([] : (List Item)).map eItem)]) rfl TT.bldA_80 (build_of rfl fill_nil) ?_)
      refine XK.st none rfl rfl (sf_stV (l' := [.d (.val (.bool false)), .d (.val (sV ([] : List UInt8))), .full (([] : (List Item)).map eItem)]) rfl TT.tyA_80 rfl rfl rfl rfl rfl rfl (by simp) rfl ?_)
      refine XK.st (some 3) rfl rfl (sf_assign (v := .d (.val (.int .i64 (6)))) rfl rfl ?_)
      refine XK.nil (nrm ?_)
      refine QW.ret (Nat.zero_le _) (blR (thR ?_))
      obtain rfl := sO h
      exact Ends.more (.inr rfl) rfl (ps := [.agg [.d (.val (.bool false)), .d (.val (sV ([] : List UInt8))), .full (([] : (List Item)).map eItem)], .d (.val (.int .i64 (6)))]) (And.intro (ResIs.cell rfl rfl TT.tyA_80 ⟨⟨by simp, by simp⟩, rfl⟩) (And.intro (ResIs.tmp rfl) trivial)) rfl rfl
    · replace h := bF h hb4
      refine QW.skip (Nat.zero_le _) (blN (nrm ?_))
      refine QW.seq ?_
      refine QW.region (Nat.zero_le _) (PW.regT (by kernel_rfl) ?_)
      refine XK.as (some 24) rfl rfl (sf_ldV (v := .agg [.d (.val (.bool ((x1.1).fList))), .d (.val (sV ((x1.1).fS))), .d (.slice (((x1.1).fL).map eItem))]) rfl TT.tyA_80 rfl rfl ⟨⟨by simp, by simp⟩, rfl⟩ ⟨.d (.agg (cItem (x1.1))), (Imp.toD rfl), ?_⟩)
      refine XK.st none rfl rfl (sf_stV (l' := [.d (.val (.bool ((x1.1).fList))), .d (.val (sV ((x1.1).fS))), .d (.slice (((x1.1).fL).map eItem))]) rfl TT.tyA_80 rfl rfl rfl rfl rfl rfl (by simp) rfl ?_)
      refine XK.st (some 3) rfl rfl (sf_assign (v := .d (.val (.int .i64 (0)))) rfl rfl ?_)
      refine XK.nil (nrm ?_)
      refine QW.ret (Nat.zero_le _) ?_
      obtain rfl := sO h
      exact Ends.more (.inr rfl) rfl (ps := [.agg [.d (.val (.bool ((x1.1).fList))), .d (.val (sV ((x1.1).fS))), .d (.slice (((x1.1).fL).map eItem))], .d (.val (.int .i64 (0)))]) (And.intro (ResIs.cell rfl rfl TT.tyA_80 ⟨⟨by simp, by simp⟩, rfl⟩) (And.intro (ResIs.tmp rfl) trivial)) rfl rfl

noncomputable def g_rlp_List (l0 : (List Item)) : Option Item :=
    gO ((([] : (List Item)).length + l0.length) * 48 ≤ 140737488355328) (
    some (⟨true, ([] : List UInt8), (([] : (List Item)) ++ l0)⟩ : Item))

set_option maxRecDepth 20000 in
set_option maxHeartbeats 4000000 in
theorem sim_rlp_List (l0 : (List Item)) (r : Item) (h : g_rlp_List l0 = some r) : Fun Try.prog 69 [.slice (l0.map eItem)] (.agg (cItem r)) := by
  refine Fun.of_bodyQ Try.func69 rfl (by simp [Try.ntmps69]) ?_
  rw [Try.ntmps69, TT.res_69]
  refine QW.view (s' := ⟨tab [(0, .d (.slice (l0.map eItem)))], tabH [], 0, []⟩) (View.init (by rfl)) (Nat.zero_le _) ?_
  unfold g_rlp_List at h
  refine QW.seq ?_
  refine QW.region (Nat.zero_le _) (PW.regT (by kernel_rfl) ?_)
  refine XK.st (some 2) rfl rfl (sf_alloc (l := [.d (.val (.bool false)), .d (.val (sV ([] : List UInt8))), .full (([] : (List Item)).map eItem)]) rfl TT.zeroA_80 rfl rfl ?_)
  refine XK.nil (nrm ?_)
  refine QW.seq ?_
  refine QW.region (Nat.zero_le _) (PW.regT (by kernel_rfl) ?_)
  refine XK.st (some 3) rfl rfl (sf_move (v := .d (.slice (l0.map eItem))) rfl rfl ?_)
  obtain ⟨c1, h⟩ := gO_get h
  refine XK.st (some 4) rfl rfl (sf_appF (en := eItem) (l := ([] : (List Item))) (l2 := l0) rfl TT.rowA_78 TT.under_78 rfl lay_Item rfl rfl ⟨c1, fun _ => rfl⟩ (by decide) ?_)
  refine XK.st (some 5) rfl rfl (sf_bld (v := .agg [.d (.val (.bool true)), .d (.val (sV ([] : List UInt8))), .own 1 ((([] : (List Item)) ++ l0).map eItem)]) rfl TT.bldA_80 (build_of rfl (fill_step (cells' := [.d (.val (.bool true)), .d (.val (sV ([] : List UInt8))), .full (([] : (List Item)).map eItem)]) rfl rfl rfl (Nat.le_of_ble_eq_true rfl) rfl (fill_step (cells' := [.d (.val (.bool true)), .d (.val (sV ([] : List UInt8))), .own 1 ((([] : (List Item)) ++ l0).map eItem)]) rfl rfl rfl (Nat.le_of_ble_eq_true rfl) rfl fill_nil))) ?_)
  refine XK.st none rfl rfl (sf_stV (l' := [.d (.val (.bool true)), .d (.val (sV ([] : List UInt8))), .own 1 ((([] : (List Item)) ++ l0).map eItem)]) rfl TT.tyA_80 rfl rfl rfl rfl rfl rfl (by simp) rfl ?_)
  refine XK.nil (nrm ?_)
  refine QW.ret (Nat.zero_le _) ?_
  obtain rfl := sO h
  exact Ends.one (.inr rfl) rfl (ResIs.cell rfl rfl TT.tyA_80 ⟨⟨by simp, by simp⟩, rfl⟩) rfl rfl

inductive C_slices_EqualFunc_api_Item_api_Item_api_Item_api_Item where
  | S
  | L1 (v17 : Int)

noncomputable def step_slices_EqualFunc_api_Item_api_Item_api_Item_api_Item (v0 : (List Item)) (v1 : (List Item)) (f2 : Item → Item → Option Bool) : C_slices_EqualFunc_api_Item_api_Item_api_Item_api_Item → Option (C_slices_EqualFunc_api_Item_api_Item_api_Item_api_Item ⊕ Bool)
  | .S =>
    (bif (!decide ((v0.length : Int) = (v1.length : Int))) then
    some (.inr false)
    else
    some (.inl (.L1 (0))))
  | .L1 v17 =>
    (bif (decide (v17 < (v0.length : Int))) then
    gO (0 ≤ v17 ∧ v17 < (v0.length : Int)) (
    gO (0 ≤ v17 ∧ v17 < (v1.length : Int)) (
    ((f2 (idx v0 v17) (idx v1 v17)).bind fun (x6 : Bool) =>
    (bif (!x6) then
    some (.inr false)
    else
    gO (inI (v17 + (1 : Int))) (
    some (.inl (.L1 (v17 + (1 : Int)))))))))
    else
    some (.inr true))

noncomputable def g_slices_EqualFunc_api_Item_api_Item_api_Item_api_Item (v0 : (List Item)) (v1 : (List Item)) (f2 : Item → Item → Option Bool) : Option Bool := theC (step_slices_EqualFunc_api_Item_api_Item_api_Item_api_Item v0 v1 f2) .S

set_option maxRecDepth 20000 in
set_option maxHeartbeats 4000000 in
theorem sim_slices_EqualFunc_api_Item_api_Item_api_Item_api_Item (v0 : (List Item)) (v1 : (List Item)) (f2 : Item → Item → Option Bool) (fn2 : Nat) (cp2 : List D) (he2 : entersB Try.prog fn2 = true) (hf2 : ∀ y0 y1 r, f2 y0 y1 = some r → Fun Try.prog fn2 ([.agg (cItem y0), .agg (cItem y1)] ++ cp2) (.val (.bool r))) (r : Bool) (h : g_slices_EqualFunc_api_Item_api_Item_api_Item_api_Item v0 v1 f2 = some r) : Fun Try.prog 107 [.slice (v0.map eItem), .slice (v1.map eItem), .clo fn2 cp2] (.val (.bool r)) := by
  refine Fun.of_bodyQ Try.func107 rfl (by simp [Try.ntmps107]) ?_
  rw [Try.ntmps107, TT.res_107]
  refine QW.view (s' := ⟨tab [(0, .d (.slice (v0.map eItem))), (1, .d (.slice (v1.map eItem))), (2, .d (.clo fn2 cp2))], tabH [], 0, []⟩) (View.init (by rfl)) (Nat.zero_le _) ?_
  replace h := theC_get h
  obtain ⟨_, h⟩ := h
  obtain ⟨k0, rfl, h9⟩ := run_succ h; replace h := h9; clear h9
  refine QW.seq ?_
  refine QW.region (Nat.zero_le _) (PW.regT (by kernel_rfl) ?_)
  refine XK.st (some 6) rfl rfl (sf_assign (v := .d (.val (.bool false))) rfl rfl ?_)
  refine XK.nil (nrm ?_)
  refine QW.seq ?_
  refine QW.seq ?_
  refine QW.region (Nat.zero_le _) (PW.regT (by kernel_rfl) ?_)
  refine XK.st (some 10) rfl rfl (sf_move (v := .d (.slice (v0.map eItem))) rfl rfl ?_)
  refine XK.st (some 11) rfl rfl (sf_lenL (en := eItem) (l := v0) rfl TT.under_78 rfl ?_)
  refine XK.st (some 12) rfl rfl (sf_move (v := .d (.slice (v1.map eItem))) rfl rfl ?_)
  refine XK.st (some 13) rfl rfl (sf_lenL (en := eItem) (l := v1) rfl TT.under_78 rfl ?_)
  refine XK.st (some 14) rfl rfl (sf_ne (a := (v0.length : Int)) (b := (v1.length : Int)) rfl rfl rfl ?_)
  refine XK.nil (nrm ?_)
  refine QW.cond (t := (!decide ((v0.length : Int) = (v1.length : Int)))) rfl (Nat.zero_le _) (fun hb1 => ?_) (fun hb1 => ?_)
  · replace h := bGT h hb1
    refine QW.seq ?_
    refine QW.region (Nat.zero_le _) (PW.regT (by kernel_rfl) ?_)
    refine XK.st (some 6) rfl rfl (sf_assign (v := .d (.val (.bool false))) rfl rfl ?_)
    refine XK.nil (nrm ?_)
    refine QW.ret (Nat.zero_le _) (thR ?_)
    obtain rfl := sG h
    exact Ends.one (.inr rfl) rfl (ResIs.tmp rfl) rfl rfl
  · replace h := bGF h hb1
    refine QW.skip (Nat.zero_le _) (nrm ?_)
    refine QW.seq ?_
    refine QW.seq ?_
    refine QW.region (Nat.zero_le _) (PW.regT (by kernel_rfl) ?_)
    refine XK.st (some 15) rfl rfl (sf_move (v := .d (.slice (v0.map eItem))) rfl rfl ?_)
    refine XK.st (some 16) rfl rfl (sf_lenL (en := eItem) (l := v0) rfl TT.under_78 rfl ?_)
    refine XK.st (some 17) rfl rfl (sf_move (v := .d (.val (.int .i64 (0)))) rfl rfl ?_)
    refine XK.nil (nrm ?_)
    refine QW.block ?_
    refine QW.loop (fun k σ => ∃ v17 : Int, k ≤ k0 ∧ run (step_slices_EqualFunc_api_Item_api_Item_api_Item_api_Item v0 v1 f2) k (.L1 v17) = some r ∧ σ = ⟨tab [(1, .d (.slice (v1.map eItem))), (2, .d (.clo fn2 cp2)), (15, .d (.slice (v0.map eItem))), (16, .d (.val (.int .i64 (v0.length : Int)))), (17, .d (.val (.int .i64 v17)))], tabH [], 0, []⟩) k0 (Nat.zero_le _) ⟨⟨tab [(1, .d (.slice (v1.map eItem))), (2, .d (.clo fn2 cp2)), (15, .d (.slice (v0.map eItem))), (16, .d (.val (.int .i64 (v0.length : Int)))), (17, .d (.val (.int .i64 (0))))], tabH [], 0, []⟩, View.mk 0 [] _ _ _ rfl rfl (by decide) (And.intro (Imp.of_eq rfl) (And.intro (Imp.of_eq rfl) (And.intro (Imp.of_eq rfl) (And.intro (Imp.of_eq rfl) (And.intro (Imp.of_eq rfl) trivial))))) trivial rfl (Nat.zero_le _) rfl, 0, Nat.le_refl _, jG h, rfl⟩ ?_
    rintro k2s _ ⟨v17, k2h, h, rfl⟩
    obtain ⟨k2, rfl, h9⟩ := run_succ h; replace h := h9; clear h9
    refine QW.seq ?_
    refine QW.region (Nat.zero_le _) (PW.regT (by kernel_rfl) ?_)
    refine XK.st (some 18) rfl rfl (sf_lss (a := v17) (b := (v0.length : Int)) rfl rfl rfl ?_)
    refine XK.nil (nrm ?_)
    refine QW.seq ?_
    refine QW.cond (t := (decide (v17 < (v0.length : Int)))) rfl (Nat.zero_le _) (fun hb3 => ?_) (fun hb3 => ?_)
    · replace h := bGT h hb3
      refine QW.skip (Nat.zero_le _) (nrm ?_)
      refine QW.seq ?_
      refine QW.block ?_
      refine QW.seq ?_
      refine QW.region (Nat.zero_le _) (PW.regT (by kernel_rfl) ?_)
      refine XK.st (some 19) rfl rfl (sf_move (v := .d (.val (.int .i64 v17))) rfl rfl ?_)
      obtain ⟨c4, h⟩ := gG h
      refine XK.st (some 20) rfl rfl (sf_idxA (l := v0) (i := v17) rfl TT.slcA_78 lay_Item rfl rfl c4 ?_)
      refine XK.st (some 21) rfl rfl (sf_ldC (d := .agg (cItem (idx v0 v17))) rfl TT.tyA_80 rfl (⟨by simp [cItem], rfl⟩) ?_)
      refine XK.st (some 8) rfl rfl (sf_alloc (l := [.d (.val (.bool false)), .d (.val (sV ([] : List UInt8))), .full (([] : (List Item)).map eItem)]) rfl TT.zeroA_80 rfl rfl ?_)
      refine XK.st (some 7) rfl rfl (sf_assign (v := .d (.val (.int .i64 v17))) rfl rfl ?_)
      refine XK.st none rfl rfl (sf_stV (l' := [.d (.val (.bool ((idx v0 v17).fList))), .d (.val (sV ((idx v0 v17).fS))), .d (.slice (((idx v0 v17).fL).map eItem))]) rfl TT.tyA_80 rfl rfl rfl rfl rfl rfl (by simp) rfl ?_)
      refine XK.nil (nrm ?_)
      refine QW.seq ?_
      refine QW.region (Nat.zero_le _) (PW.regT (by kernel_rfl) ?_)
      refine XK.st (some 22) rfl rfl (sf_move (v := .d (.slice (v1.map eItem))) rfl rfl ?_)
      refine XK.st (some 23) rfl rfl (sf_move (v := .d (.val (.int .i64 v17))) rfl rfl ?_)
      obtain ⟨c5, h⟩ := gG h
      refine XK.st (some 24) rfl rfl (sf_idxA (l := v1) (i := v17) rfl TT.slcA_78 lay_Item rfl rfl c5 ?_)
      refine XK.st (some 25) rfl rfl (sf_ldC (d := .agg (cItem (idx v1 v17))) rfl TT.tyA_80 rfl (⟨by simp [cItem], rfl⟩) ?_)
      refine XK.st (some 9) rfl rfl (sf_alloc (l := [.d (.val (.bool false)), .d (.val (sV ([] : List UInt8))), .full (([] : (List Item)).map eItem)]) rfl TT.zeroA_80 rfl rfl ?_)
      refine XK.st none rfl rfl (sf_stV (l' := [.d (.val (.bool ((idx v1 v17).fList))), .d (.val (sV ((idx v1 v17).fS))), .d (.slice (((idx v1 v17).fL).map eItem))]) rfl TT.tyA_80 rfl rfl rfl rfl rfl rfl (by simp) rfl ?_)
      refine XK.nil (nrm ?_)
      refine QW.seq ?_
      refine QW.region (Nat.zero_le _) (PW.regT (by kernel_rfl) ?_)
      refine XK.st (some 26) rfl rfl (sf_move (v := .d (.clo fn2 cp2)) rfl rfl ?_)
      refine XK.as (some 27) rfl rfl (sf_ldV (v := .agg [.d (.val (.bool ((idx v0 v17).fList))), .d (.val (sV ((idx v0 v17).fS))), .d (.slice (((idx v0 v17).fL).map eItem))]) rfl TT.tyA_80 rfl rfl ⟨⟨by simp, by simp⟩, rfl⟩ ⟨.d (.agg (cItem (idx v0 v17))), (Imp.toD rfl), ?_⟩)
      refine XK.as (some 28) rfl rfl (sf_ldV (v := .agg [.d (.val (.bool ((idx v1 v17).fList))), .d (.val (sV ((idx v1 v17).fS))), .d (.slice (((idx v1 v17).fL).map eItem))]) rfl TT.tyA_80 rfl rfl ⟨⟨by simp, by simp⟩, rfl⟩ ⟨.d (.agg (cItem (idx v1 v17))), (Imp.toD rfl), ?_⟩)
      obtain ⟨x6, hx7, h⟩ := bG h
      refine XK.st (some 29) rfl rfl (sf_clo rfl rfl rfl he2 rfl (hf2 (idx v0 v17) (idx v1 v17) _ hx7) ?_)
      refine XK.st (some 30) rfl rfl (sf_not rfl rfl ?_)
      refine XK.nil (nrm ?_)
      refine QW.cond (t := (!x6)) rfl (Nat.zero_le _) (fun hb8 => ?_) (fun hb8 => ?_)
      · replace h := bGT h hb8
        refine QW.seq ?_
        refine QW.region (Nat.zero_le _) (PW.regT (by kernel_rfl) ?_)
        refine XK.st (some 6) rfl rfl (sf_assign (v := .d (.val (.bool false))) rfl rfl ?_)
        refine XK.nil (nrm ?_)
        refine QW.ret (Nat.zero_le _) (blR (thR (thR (blR (thR ?_)))))
        obtain rfl := sG h
        exact Ends.one (.inr rfl) rfl (ResIs.tmp rfl) rfl rfl
      · replace h := bGF h hb8
        refine QW.skip (Nat.zero_le _) (blN (nrm ?_))
        refine QW.region (Nat.zero_le _) (PW.regT (by kernel_rfl) ?_)
        obtain ⟨c9, h⟩ := gG h
        refine XK.st (some 31) rfl rfl (sf_add (a := v17) (b := (1 : Int)) rfl rfl rfl c9 ?_)
        refine XK.st (some 17) rfl rfl (sf_move (v := .d (.val (.int .i64 (v17 + (1 : Int))))) rfl rfl ?_)
        refine XK.nil (nrm ?_)
        exact ⟨k2, by omega, ⟨tab [(1, .d (.slice (v1.map eItem))), (2, .d (.clo fn2 cp2)), (15, .d (.slice (v0.map eItem))), (16, .d (.val (.int .i64 (v0.length : Int)))), (17, .d (.val (.int .i64 (v17 + (1 : Int)))))], tabH [], 0, []⟩, View.mk 0 [] _ _ _ rfl rfl (by decide) (And.intro (Imp.of_eq rfl) (And.intro (Imp.of_eq rfl) (And.intro (Imp.of_eq rfl) (And.intro (Imp.of_eq rfl) (And.intro (Imp.of_eq rfl) trivial))))) trivial rfl (Nat.zero_le _) rfl, (v17 + (1 : Int)), by omega, jG h, rfl⟩
    · replace h := bGF h hb3
      refine QW.exit (Nat.zero_le _) (thX (thX (exE (nrm ?_))))
      refine QW.seq ?_
      refine QW.region (Nat.zero_le _) (PW.regT (by kernel_rfl) ?_)
      refine XK.st (some 6) rfl rfl (sf_assign (v := .d (.val (.bool true))) rfl rfl ?_)
      refine XK.nil (nrm ?_)
      refine QW.ret (Nat.zero_le _) ?_
      obtain rfl := sG h
      exact Ends.one (.inr rfl) rfl (ResIs.tmp rfl) rfl rfl

noncomputable def gs_rlp_Same (self : Item → Item → Option Bool) (a0 : Item) (b1 : Item) : Option Bool :=
    ((bif (((a0.fList == b1.fList) && (a0.fS == b1.fS)) == true) then g_slices_EqualFunc_api_Item_api_Item_api_Item_api_Item (a0.fL) (b1.fL) (fun y0 y1 => self y0 y1) else some default).bind fun (x1 : Bool) =>
    some (((a0.fList == b1.fList) && (a0.fS == b1.fS)) && x1))

set_option maxRecDepth 20000 in
set_option maxHeartbeats 4000000 in
theorem sims_rlp_Same (self : Item → Item → Option Bool) (hself : ∀ (y0 : Item) (y1 : Item) (rr : Bool), self y0 y1 = some rr → Fun Try.prog 66 [.agg (cItem y0), .agg (cItem y1)] (.val (.bool rr))) (a0 : Item) (b1 : Item) (r : Bool) (h : gs_rlp_Same self a0 b1 = some r) : Fun Try.prog 66 [.agg (cItem a0), .agg (cItem b1)] (.val (.bool r)) := by
  refine Fun.of_bodyQ Try.func66 rfl (by simp [Try.ntmps66]) ?_
  rw [Try.ntmps66, TT.res_66]
  refine QW.view (s' := ⟨tab [(0, .d (.agg (cItem a0))), (1, .d (.agg (cItem b1)))], tabH [], 0, []⟩) (View.init (by rfl)) (Nat.zero_le _) ?_
  unfold gs_rlp_Same at h
  refine QW.seq ?_
  refine QW.region (Nat.zero_le _) (PW.regT (by kernel_rfl) ?_)
  refine XK.fz (some 2) rfl rfl (sf_boxF (ds := cItem a0) rfl rfl rfl rfl rfl ?_)
  refine XK.fz (some 3) rfl rfl (sf_boxF (ds := cItem b1) rfl rfl rfl rfl rfl ?_)
  refine XK.st (some 4) rfl rfl (sf_assign (v := .d (.val (.bool false))) rfl rfl ?_)
  refine XK.nil (nrm ?_)
  refine QW.seq ?_
  refine QW.region (Nat.zero_le _) (PW.regT (by kernel_rfl) ?_)
  refine XK.st (some 5) rfl rfl (sf_fldC rfl TT.fldA_80_0 (by decide) rfl ?_)
  refine XK.st (some 6) rfl rfl (sf_ldC (d := .val (.bool (a0.fList))) rfl TT.tyA_4 rfl (LdC.one) ?_)
  refine XK.st (some 7) rfl rfl (sf_fldC rfl TT.fldA_80_0 (by decide) rfl ?_)
  refine XK.st (some 8) rfl rfl (sf_ldC (d := .val (.bool (b1.fList))) rfl TT.tyA_4 rfl (LdC.one) ?_)
  refine XK.st (some 9) rfl rfl (sf_beq (a := a0.fList) (b := b1.fList) rfl TT.under_4 rfl rfl ?_)
  refine XK.st (some 10) rfl rfl (sf_move (v := .d (.val (.bool (a0.fList == b1.fList)))) rfl rfl ?_)
  refine XK.gd (v := .d (.cptr ((cItem a0).drop 1))) (T := []) (some 11) rfl rfl (by repeat (first | exact trivial | refine And.intro (fun hg => by first | rfl | exact hg | exact (Bool.and_eq_true_iff.mp hg).1 | exact (Bool.and_eq_true_iff.mp (Bool.and_eq_true_iff.mp hg).1).1) ?_)) (fun hg => sf_fldC rfl TT.fldA_80_1 (by decide) rfl ⟨⟨rfl, rfl, rfl⟩, rfl, Imp.refl⟩) (fun _ _ hi => nomatch hi) ?_
  refine XK.gd (v := .d (.val (sV (a0.fS)))) (T := []) (some 12) rfl rfl (by repeat (first | exact trivial | refine And.intro (fun hg => by first | rfl | exact hg | exact (Bool.and_eq_true_iff.mp hg).1 | exact (Bool.and_eq_true_iff.mp (Bool.and_eq_true_iff.mp hg).1).1) ?_)) (fun hg => sf_ldC (d := .val (sV (a0.fS))) rfl TT.tyA_9 rfl (LdC.one) ⟨⟨rfl, rfl, rfl⟩, rfl, Imp.refl⟩) (fun _ _ hi => nomatch hi) ?_
  refine XK.gd (v := .d (.cptr ((cItem b1).drop 1))) (T := []) (some 13) rfl rfl (by repeat (first | exact trivial | refine And.intro (fun hg => by first | rfl | exact hg | exact (Bool.and_eq_true_iff.mp hg).1 | exact (Bool.and_eq_true_iff.mp (Bool.and_eq_true_iff.mp hg).1).1) ?_)) (fun hg => sf_fldC rfl TT.fldA_80_1 (by decide) rfl ⟨⟨rfl, rfl, rfl⟩, rfl, Imp.refl⟩) (fun _ _ hi => nomatch hi) ?_
  refine XK.gd (v := .d (.val (sV (b1.fS)))) (T := []) (some 14) rfl rfl (by repeat (first | exact trivial | refine And.intro (fun hg => by first | rfl | exact hg | exact (Bool.and_eq_true_iff.mp hg).1 | exact (Bool.and_eq_true_iff.mp (Bool.and_eq_true_iff.mp hg).1).1) ?_)) (fun hg => sf_ldC (d := .val (sV (b1.fS))) rfl TT.tyA_9 rfl (LdC.one) ⟨⟨rfl, rfl, rfl⟩, rfl, Imp.refl⟩) (fun _ _ hi => nomatch hi) ?_
  refine XK.gd (v := .d (.val (.bool (a0.fS == b1.fS)))) (T := []) (some 15) rfl rfl (by repeat (first | exact trivial | refine And.intro (fun hg => by first | rfl | exact hg | exact (Bool.and_eq_true_iff.mp hg).1 | exact (Bool.and_eq_true_iff.mp (Bool.and_eq_true_iff.mp hg).1).1) ?_)) (fun hg => sf_seq (a := a0.fS) (b := b1.fS) rfl rfl rfl ⟨⟨rfl, rfl, rfl⟩, rfl, Imp.refl⟩) (fun _ _ hi => nomatch hi) ?_
  refine XK.st (some 16) rfl rfl (sf_pickA rfl rfl rfl rfl (fun hb => by rw [hb]; rfl) (fun _ => rfl) ?_)
  refine XK.st (some 17) rfl rfl (sf_move (v := .d (.val (.bool ((a0.fList == b1.fList) && (a0.fS == b1.fS))))) rfl rfl ?_)
  refine XK.gd (v := .d (.cptr ((cItem a0).drop 2))) (T := []) (some 18) rfl rfl (by repeat (first | exact trivial | refine And.intro (fun hg => by first | rfl | exact hg | exact (Bool.and_eq_true_iff.mp hg).1 | exact (Bool.and_eq_true_iff.mp (Bool.and_eq_true_iff.mp hg).1).1) ?_)) (fun hg => sf_fldC rfl TT.fldA_80_2 (by decide) rfl ⟨⟨rfl, rfl, rfl⟩, rfl, Imp.refl⟩) (fun _ _ hi => nomatch hi) ?_
  refine XK.gd (v := .d (.slice ((a0.fL).map eItem))) (T := []) (some 19) rfl rfl (by repeat (first | exact trivial | refine And.intro (fun hg => by first | rfl | exact hg | exact (Bool.and_eq_true_iff.mp hg).1 | exact (Bool.and_eq_true_iff.mp (Bool.and_eq_true_iff.mp hg).1).1) ?_)) (fun hg => sf_ldC (d := .slice ((a0.fL).map eItem)) rfl TT.tyA_78 rfl (LdC.one) ⟨⟨rfl, rfl, rfl⟩, rfl, Imp.refl⟩) (fun _ _ hi => nomatch hi) ?_
  refine XK.gd (v := .d (.cptr ((cItem b1).drop 2))) (T := []) (some 20) rfl rfl (by repeat (first | exact trivial | refine And.intro (fun hg => by first | rfl | exact hg | exact (Bool.and_eq_true_iff.mp hg).1 | exact (Bool.and_eq_true_iff.mp (Bool.and_eq_true_iff.mp hg).1).1) ?_)) (fun hg => sf_fldC rfl TT.fldA_80_2 (by decide) rfl ⟨⟨rfl, rfl, rfl⟩, rfl, Imp.refl⟩) (fun _ _ hi => nomatch hi) ?_
  refine XK.gd (v := .d (.slice ((b1.fL).map eItem))) (T := []) (some 21) rfl rfl (by repeat (first | exact trivial | refine And.intro (fun hg => by first | rfl | exact hg | exact (Bool.and_eq_true_iff.mp hg).1 | exact (Bool.and_eq_true_iff.mp (Bool.and_eq_true_iff.mp hg).1).1) ?_)) (fun hg => sf_ldC (d := .slice ((b1.fL).map eItem)) rfl TT.tyA_78 rfl (LdC.one) ⟨⟨rfl, rfl, rfl⟩, rfl, Imp.refl⟩) (fun _ _ hi => nomatch hi) ?_
  obtain ⟨x1, hx2, h⟩ := bO h
  refine XK.gd (v := .d (.val (.bool x1))) (T := []) (some 22) rfl rfl (by repeat (first | exact trivial | refine And.intro (fun hg => by first | rfl | exact hg | exact (Bool.and_eq_true_iff.mp hg).1 | exact (Bool.and_eq_true_iff.mp (Bool.and_eq_true_iff.mp hg).1).1) ?_)) (fun hg => sf_call rfl rfl TT.enters_107 rfl (sim_slices_EqualFunc_api_Item_api_Item_api_Item_api_Item (a0.fL) (b1.fL) (fun y0 y1 => self y0 y1) 66 [] TT.enters_66 (fun y0 y1 _ h => hself y0 y1 _ h) _ (bT hx2 hg)) ⟨⟨rfl, rfl, rfl⟩, rfl, Imp.refl⟩) (fun _ _ hi => nomatch hi) ?_
  refine XK.st (some 23) rfl rfl (sf_pickA rfl rfl rfl rfl (fun hb => by rw [hb]; rfl) (fun _ => rfl) ?_)
  refine XK.st (some 4) rfl rfl (sf_assign (v := .d (.val (.bool (((a0.fList == b1.fList) && (a0.fS == b1.fS)) && x1)))) rfl rfl ?_)
  refine XK.nil (nrm ?_)
  refine QW.ret (Nat.zero_le _) ?_
  obtain rfl := sO h
  exact Ends.one (.inr rfl) rfl (ResIs.tmp rfl) rfl rfl

noncomputable def rec_rlp_Same : Nat → Item → Item → Option Bool
  | 0 => fun _ _ => none
  | n + 1 => fun y0 y1 => gs_rlp_Same (rec_rlp_Same n) y0 y1

theorem simr_rlp_Same : ∀ (n : Nat) (y0 : Item) (y1 : Item) (rr : Bool), rec_rlp_Same n y0 y1 = some rr → Fun Try.prog 66 [.agg (cItem y0), .agg (cItem y1)] (.val (.bool rr))
  | 0, _, _, _, h => by cases h
  | n + 1, y0, y1, rr, h => sims_rlp_Same (rec_rlp_Same n) (simr_rlp_Same n) y0 y1 rr h

noncomputable def g_rlp_Same (y0 : Item) (y1 : Item) : Option Bool := theR (fun n => rec_rlp_Same n y0 y1)

theorem sim_rlp_Same (y0 : Item) (y1 : Item) (rr : Bool) (h : g_rlp_Same y0 y1 = some rr) : Fun Try.prog 66 [.agg (cItem y0), .agg (cItem y1)] (.val (.bool rr)) := by
  obtain ⟨n, hn⟩ := theR_get h
  exact simr_rlp_Same n y0 y1 rr hn

inductive C_rlp_Count where
  | S
  | L1 (v3 : Int) (v9 : Int)

noncomputable def step_rlp_Count (self : Item → Option Int) (x0 : Item) : C_rlp_Count → Option (C_rlp_Count ⊕ Int)
  | .S =>
    some (.inl (.L1 (1) (0)))
  | .L1 v3 v9 =>
    (bif (decide (v9 < ((x0.fL).length : Int))) then
    gO (0 ≤ v9 ∧ v9 < ((x0.fL).length : Int)) (
    ((self (idx (x0.fL) v9)).bind fun (x4 : Int) =>
    some (.inl (.L1 (wI (v3 + x4)) (wI (v9 + (1 : Int)))))))
    else
    some (.inr v3))

noncomputable def gs_rlp_Count (self : Item → Option Int) (x0 : Item) : Option Int := theC (step_rlp_Count self x0) .S

set_option maxRecDepth 20000 in
set_option maxHeartbeats 4000000 in
theorem sims_rlp_Count (self : Item → Option Int) (hself : ∀ (y0 : Item) (rr : Int), self y0 = some rr → Fun Try.prog 105 [.agg (cItem y0)] (.val (.int .i64 rr))) (x0 : Item) (r : Int) (h : gs_rlp_Count self x0 = some r) : Fun Try.prog 105 [.agg (cItem x0)] (.val (.int .i64 r)) := by
  refine Fun.of_bodyQ Try.func105 rfl (by simp [Try.ntmps105]) ?_
  rw [Try.ntmps105, TT.res_105]
  refine QW.view (s' := ⟨tab [(0, .d (.agg (cItem x0)))], tabH [], 0, []⟩) (View.init (by rfl)) (Nat.zero_le _) ?_
  replace h := theC_get h
  obtain ⟨_, h⟩ := h
  obtain ⟨k0, rfl, h9⟩ := run_succ h; replace h := h9; clear h9
  refine QW.seq ?_
  refine QW.region (Nat.zero_le _) (PW.regT (by kernel_rfl) ?_)
  refine XK.fz (some 1) rfl rfl (sf_boxF (ds := cItem x0) rfl rfl rfl rfl rfl ?_)
  refine XK.st (some 2) rfl rfl (sf_assign (v := .d (.val (.int .i64 (0)))) rfl rfl ?_)
  refine XK.nil (nrm ?_)
  refine QW.seq ?_
  refine QW.region (Nat.zero_le _) (PW.regT (by kernel_rfl) ?_)
  refine XK.st (some 3) rfl rfl (sf_assign (v := .d (.val (.int .i64 (1)))) rfl rfl ?_)
  refine XK.nil (nrm ?_)
  refine QW.seq ?_
  refine QW.seq ?_
  refine QW.region (Nat.zero_le _) (PW.regT (by kernel_rfl) ?_)
  refine XK.st (some 6) rfl rfl (sf_fldC rfl TT.fldA_80_2 (by decide) rfl ?_)
  refine XK.st (some 7) rfl rfl (sf_ldC (d := .slice ((x0.fL).map eItem)) rfl TT.tyA_78 rfl (LdC.one) ?_)
  refine XK.st (some 8) rfl rfl (sf_lenL (en := eItem) (l := x0.fL) rfl TT.under_78 rfl ?_)
  refine XK.st (some 9) rfl rfl (sf_move (v := .d (.val (.int .i64 (0)))) rfl rfl ?_)
  refine XK.nil (nrm ?_)
  refine QW.block ?_
  refine QW.loop (fun k σ => ∃ v3 : Int, ∃ v9 : Int, k ≤ k0 ∧ run (step_rlp_Count self x0) k (.L1 v3 v9) = some r ∧ σ = ⟨tab [(3, .d (.val (.int .i64 v3))), (7, .d (.slice ((x0.fL).map eItem))), (8, .d (.val (.int .i64 ((x0.fL).length : Int)))), (9, .d (.val (.int .i64 v9)))], tabH [], 0, []⟩) k0 (Nat.zero_le _) ⟨⟨tab [(3, .d (.val (.int .i64 (1)))), (7, .d (.slice ((x0.fL).map eItem))), (8, .d (.val (.int .i64 ((x0.fL).length : Int)))), (9, .d (.val (.int .i64 (0))))], tabH [], 0, []⟩, View.mk 0 [] _ _ _ rfl rfl (by decide) (And.intro (Imp.of_eq rfl) (And.intro (Imp.of_eq rfl) (And.intro (Imp.of_eq rfl) (And.intro (Imp.of_eq rfl) trivial)))) trivial rfl (Nat.zero_le _) rfl, 1, 0, Nat.le_refl _, jG h, rfl⟩ ?_
  rintro k1s _ ⟨v3, v9, k1h, h, rfl⟩
  obtain ⟨k1, rfl, h9⟩ := run_succ h; replace h := h9; clear h9
  refine QW.seq ?_
  refine QW.region (Nat.zero_le _) (PW.regT (by kernel_rfl) ?_)
  refine XK.st (some 10) rfl rfl (sf_lss (a := v9) (b := ((x0.fL).length : Int)) rfl rfl rfl ?_)
  refine XK.nil (nrm ?_)
  refine QW.seq ?_
  refine QW.cond (t := (decide (v9 < ((x0.fL).length : Int)))) rfl (Nat.zero_le _) (fun hb2 => ?_) (fun hb2 => ?_)
  · replace h := bGT h hb2
    refine QW.skip (Nat.zero_le _) (nrm ?_)
    refine QW.seq ?_
    refine QW.block ?_
    refine QW.seq ?_
    refine QW.region (Nat.zero_le _) (PW.regT (by kernel_rfl) ?_)
    obtain ⟨c3, h⟩ := gG h
    refine XK.st (some 11) rfl rfl (sf_idxA (l := x0.fL) (i := v9) rfl TT.slcA_78 lay_Item rfl rfl c3 ?_)
    refine XK.st (some 12) rfl rfl (sf_ldC (d := .agg (cItem (idx (x0.fL) v9))) rfl TT.tyA_80 rfl (⟨by simp [cItem], rfl⟩) ?_)
    refine XK.st (some 5) rfl rfl (sf_alloc (l := [.d (.val (.bool false)), .d (.val (sV ([] : List UInt8))), .full (([] : (List Item)).map eItem)]) rfl TT.zeroA_80 rfl rfl ?_)
    refine XK.st none rfl rfl (sf_stV (l' := [.d (.val (.bool ((idx (x0.fL) v9).fList))), .d (.val (sV ((idx (x0.fL) v9).fS))), .d (.slice (((idx (x0.fL) v9).fL).map eItem))]) rfl TT.tyA_80 rfl rfl rfl rfl rfl rfl (by simp) rfl ?_)
    refine XK.nil (nrm ?_)
    refine QW.region (Nat.zero_le _) (PW.regT (by kernel_rfl) ?_)
    refine XK.st (some 13) rfl rfl (sf_move (v := .d (.val (.int .i64 v3))) rfl rfl ?_)
    refine XK.as (some 14) rfl rfl (sf_ldV (v := .agg [.d (.val (.bool ((idx (x0.fL) v9).fList))), .d (.val (sV ((idx (x0.fL) v9).fS))), .d (.slice (((idx (x0.fL) v9).fL).map eItem))]) rfl TT.tyA_80 rfl rfl ⟨⟨by simp, by simp⟩, rfl⟩ ⟨.d (.agg (cItem (idx (x0.fL) v9))), (Imp.toD rfl), ?_⟩)
    obtain ⟨x4, hx5, h⟩ := bG h
    refine XK.st (some 15) rfl rfl (sf_call rfl rfl TT.enters_105 rfl (hself (idx (x0.fL) v9) _ hx5) ?_)
    refine XK.st (some 16) rfl rfl (sf_wadd (a := v3) (b := x4) rfl rfl rfl ?_)
    refine XK.st (some 3) rfl rfl (sf_assign (v := .d (.val (.int .i64 (wI (v3 + x4))))) rfl rfl ?_)
    refine XK.nil (blN (nrm ?_))
    refine QW.region (Nat.zero_le _) (PW.regT (by kernel_rfl) ?_)
    refine XK.st (some 17) rfl rfl (sf_wadd (a := v9) (b := (1 : Int)) rfl rfl rfl ?_)
    refine XK.st (some 9) rfl rfl (sf_move (v := .d (.val (.int .i64 (wI (v9 + (1 : Int)))))) rfl rfl ?_)
    refine XK.nil (nrm ?_)
    exact ⟨k1, by omega, ⟨tab [(3, .d (.val (.int .i64 (wI (v3 + x4))))), (7, .d (.slice ((x0.fL).map eItem))), (8, .d (.val (.int .i64 ((x0.fL).length : Int)))), (9, .d (.val (.int .i64 (wI (v9 + (1 : Int))))))], tabH [], 0, []⟩, View.mk 0 [] _ _ _ rfl rfl (by decide) (And.intro (Imp.of_eq rfl) (And.intro (Imp.of_eq rfl) (And.intro (Imp.of_eq rfl) (And.intro (Imp.of_eq rfl) trivial)))) trivial rfl (Nat.zero_le _) rfl, (wI (v3 + x4)), (wI (v9 + (1 : Int))), by omega, jG h, rfl⟩
  · replace h := bGF h hb2
    refine QW.exit (Nat.zero_le _) (thX (thX (exE (nrm ?_))))
    refine QW.seq ?_
    refine QW.region (Nat.zero_le _) (PW.regT (by kernel_rfl) ?_)
    refine XK.st (some 18) rfl rfl (sf_move (v := .d (.val (.int .i64 v3))) rfl rfl ?_)
    refine XK.st (some 2) rfl rfl (sf_assign (v := .d (.val (.int .i64 v3))) rfl rfl ?_)
    refine XK.nil (nrm ?_)
    refine QW.ret (Nat.zero_le _) ?_
    obtain rfl := sG h
    exact Ends.one (.inr rfl) rfl (ResIs.tmp rfl) rfl rfl

noncomputable def rec_rlp_Count : Nat → Item → Option Int
  | 0 => fun _ => none
  | n + 1 => fun y0 => gs_rlp_Count (rec_rlp_Count n) y0

theorem simr_rlp_Count : ∀ (n : Nat) (y0 : Item) (rr : Int), rec_rlp_Count n y0 = some rr → Fun Try.prog 105 [.agg (cItem y0)] (.val (.int .i64 rr))
  | 0, _, _, h => by cases h
  | n + 1, y0, rr, h => sims_rlp_Count (rec_rlp_Count n) (simr_rlp_Count n) y0 rr h

noncomputable def g_rlp_Count (y0 : Item) : Option Int := theR (fun n => rec_rlp_Count n y0)

theorem sim_rlp_Count (y0 : Item) (rr : Int) (h : g_rlp_Count y0 = some rr) : Fun Try.prog 105 [.agg (cItem y0)] (.val (.int .i64 rr)) := by
  obtain ⟨n, hn⟩ := theR_get h
  exact simr_rlp_Count n y0 rr hn

end Go.Proofs.Ytonlehebfeilmaa.K
