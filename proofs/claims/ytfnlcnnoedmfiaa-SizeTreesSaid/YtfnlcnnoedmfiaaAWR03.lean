/- The references of layers 03 and 07: what they reckon. -/
import Derived.Test.YtfnlcnnoedmfiaaAWR02
import Derived.KernelRfl
namespace Go.Proofs.Ytfnlcnnoedmfiaa.K
open Go Go.RowKit
set_option linter.unusedSimpArgs false
set_option linter.unusedVariables false
set_option maxRecDepth 20000
set_option maxHeartbeats 4000000
namespace TT
theorem arrA_9 : arrA Try.prog 9 = none := by kernel_rfl
theorem enters_38 : entersB Try.prog 38 = true := by kernel_rfl
theorem enters_41 : entersB Try.prog 41 = true := by kernel_rfl
theorem enters_42 : entersB Try.prog 42 = true := by kernel_rfl
theorem enters_43 : entersB Try.prog 43 = true := by kernel_rfl
theorem enters_44 : entersB Try.prog 44 = true := by kernel_rfl
theorem enters_45 : entersB Try.prog 45 = true := by kernel_rfl
theorem enters_46 : entersB Try.prog 46 = true := by kernel_rfl
theorem res_30 : Try.f30.results.toList = [.tmp 2] := rfl
theorem res_38 : Try.f38.results.toList = [.tmp 2] := rfl
theorem res_41 : Try.f41.results.toList = [.tmp 2] := rfl
theorem res_42 : Try.f42.results.toList = [.tmp 4] := rfl
theorem res_43 : Try.f43.results.toList = [.tmp 4] := rfl
theorem res_44 : Try.f44.results.toList = [.tmp 4] := rfl
theorem res_45 : Try.f45.results.toList = [.tmp 2] := rfl
theorem res_46 : Try.f46.results.toList = [.tmp 2] := rfl
theorem rowA_67 : rowA Try.prog 67 = some (1, 8) := by kernel_rfl
theorem slcA_67 : slcA Try.prog 67 = some (1, 8, false) := by kernel_rfl
theorem tyA_66 : tyA Try.prog 66 = some (false, 1) := by kernel_rfl
theorem under_66 : Program.underlying Try.prog 66 = some (.int .u64) := by kernel_rfl
theorem under_67 : Program.underlying Try.prog 67 = some (.slice 66) := by kernel_rfl
end TT
inductive C_ref03_Fill where
  | S
  | L1 (v3 : (List UInt8))
  | L2 (v3_4 : (List UInt8)) (v4 : (BitVec 64)) (v5 : (List UInt8)) (v6 : Int)
noncomputable def step_ref03_Fill (s0 : (List UInt8)) : C_ref03_Fill → Option (C_ref03_Fill ⊕ (List UInt8))
  | .S =>
    gO (s0.length + ([128] : List UInt8).length ≤ 9223372036854775807) (
    some (.inl (.L1 (s0 ++ ([128] : List UInt8)))))
  | .L1 v3 =>
    (bif (!decide (((v3.length : Int).tmod (64 : Int)) = (56 : Int))) then
    gO (v3.length + ([0] : List UInt8).length ≤ 9223372036854775807) (
    some (.inl (.L1 (v3 ++ ([0] : List UInt8)))))
    else
    gO (inI ((8 : Int) * (s0.length : Int))) (
    some (.inl (.L2 v3 (BitVec.ofInt 64 ((8 : Int) * (s0.length : Int))) ([] : List UInt8) (0)))))
  | .L2 v3_4 v4 v5 v6 =>
    (bif (decide (v6 < (8 : Int))) then
    gO (([(u8I ((v4 % (256 : BitVec 64)).toNat : Int))] : List UInt8).length + v5.length ≤ 9223372036854775807) (
    gO (inI (v6 + (1 : Int))) (
    some (.inl (.L2 v3_4 (v4 / (256 : BitVec 64)) (([(u8I ((v4 % (256 : BitVec 64)).toNat : Int))] : List UInt8) ++ v5) (v6 + (1 : Int))))))
    else
    gO (v3_4.length + v5.length ≤ 9223372036854775807) (
    some (.inr (v3_4 ++ v5))))
noncomputable def g_ref03_Fill (s0 : (List UInt8)) : Option (List UInt8) := theC (step_ref03_Fill s0) .S
theorem sim_ref03_Fill (s0 : (List UInt8)) (r : (List UInt8)) (h : g_ref03_Fill s0 = some r) : Fun Try.prog 41 [.val (sV s0)] (.val (sV r)) := by
  refine Fun.of_bodyQ Try.func41 rfl (by simp [Try.ntmps41]) ?_
  rw [Try.ntmps41, TT.res_41]
  refine QW.view (s' := ⟨tab [(0, pS s0)], tabH [], 0, []⟩) (View.init (by rfl)) zL ?_
  replace h := theC_get h
  obtain ⟨_, h⟩ := h
  obtain ⟨k_0, rfl, h9⟩ := run_succ h; replace h := h9; clear h9; rw [step_ref03_Fill] at h
  refine sR ?_
  refine xz 2 (pS ([] : List UInt8)) ?_
  refine sR ?_
  refine xm 7 (pS s0) ?_
  obtain ⟨c_1, h⟩ := gG h
  refine xs 8 rfl (sf_cat (a := s0) (b := ([128] : List UInt8)) rfl rfl rfl c_1 ?_)
  refine xz 3 (pS (s0 ++ ([128] : List UInt8))) ?_
  refine QW.seq ?_
  refine QW.block ?_
  refine QW.loop (fun k σ => ∃ v3 : (List UInt8), k ≤ k_0 ∧ run (step_ref03_Fill s0) k (.L1 v3) = some r ∧ σ = ⟨tab [(0, pS s0), (3, pS v3)], tabH [], 0, []⟩) k_0 zL ⟨⟨tab [(0, pS s0), (3, pS (s0 ++ ([128] : List UInt8)))], tabH [], 0, []⟩, View.mk 0 [] _ _ _ rfl rfl (by decide) (iC (iC trivial)) trivial rfl zL rfl, (s0 ++ ([128] : List UInt8)), Nat.le_refl _, jG h, rfl⟩ ?_
  rintro k_2s _ ⟨v3, k_2h, h, rfl⟩
  obtain ⟨k_2, rfl, h9⟩ := run_succ h; replace h := h9; clear h9; rw [step_ref03_Fill] at h
  refine QW.seq ?_
  refine sR ?_
  refine xm 9 (pS v3) ?_
  refine xs 10 rfl (sf_lenS (l := v3) rfl TT.under_9 rfl ?_)
  refine xs 11 rfl (sf_rem (a := (v3.length : Int)) (b := (64 : Int)) rfl rfl rfl (by decide) ?_)
  refine xs 12 rfl (sf_ne (a := ((v3.length : Int).tmod (64 : Int))) (b := (56 : Int)) rfl rfl rfl ?_)
  refine XK.nz ?_
  refine QW.cond (t := (!decide (((v3.length : Int).tmod (64 : Int)) = (56 : Int)))) rfl zL (fun hb_3 => ?_) (fun hb_3 => ?_)
  · replace h := bGT h hb_3
    refine QW.skip zL (nrm ?_)
    refine QW.block ?_
    refine rG ?_
    refine xm 13 (pS v3) ?_
    obtain ⟨c_4, h⟩ := gG h
    refine xs 14 rfl (sf_cat (a := v3) (b := ([0] : List UInt8)) rfl rfl rfl c_4 ?_)
    refine xa 3 (pS (v3 ++ ([0] : List UInt8))) ?_
    refine XK.nil (blN (nrm ?_))
    exact ⟨k_2, by omega, ⟨tab [(0, pS s0), (3, pS (v3 ++ ([0] : List UInt8)))], tabH [], 0, []⟩, View.mk 0 [] _ _ _ rfl rfl (by decide) (iC (iC trivial)) trivial rfl zL rfl, (v3 ++ ([0] : List UInt8)), by omega, jG h, rfl⟩
  · replace h := bGF h hb_3
    refine QW.exit zL (thX (thX (exE (nrm ?_))))
    refine sR ?_
    refine xm 15 (pS s0) ?_
    refine xs 16 rfl (sf_lenS (l := s0) rfl TT.under_9 rfl ?_)
    obtain ⟨c_5, h⟩ := gG h
    refine xs 17 rfl (sf_mul (a := (8 : Int)) (b := (s0.length : Int)) rfl rfl rfl c_5 ?_)
    refine xs 18 rfl (sf_toW (n := ((8 : Int) * (s0.length : Int))) rfl TT.under_3 TT.under_66 rfl ?_)
    refine xz 4 (.d (.val (.int .u64 ((BitVec.ofInt 64 ((8 : Int) * (s0.length : Int))).toNat : Int)))) ?_
    refine sR ?_
    refine xz 5 (pS ([] : List UInt8)) ?_
    refine QW.seq ?_
    refine sR ?_
    refine xz 6 (pI (0)) ?_
    refine QW.block ?_
    refine QW.loop (fun k σ => ∃ v3_4 : (List UInt8), ∃ v4 : (BitVec 64), ∃ v5 : (List UInt8), ∃ v6 : Int, k ≤ k_2 ∧ run (step_ref03_Fill s0) k (.L2 v3_4 v4 v5 v6) = some r ∧ σ = ⟨tab [(3, pS v3_4), (4, .d (.val (.int .u64 (v4.toNat : Int)))), (5, pS v5), (6, pI v6)], tabH [], 0, []⟩) k_2 zL ⟨⟨tab [(3, pS v3), (4, .d (.val (.int .u64 ((BitVec.ofInt 64 ((8 : Int) * (s0.length : Int))).toNat : Int)))), (5, pS ([] : List UInt8)), (6, pI (0))], tabH [], 0, []⟩, View.mk 0 [] _ _ _ rfl rfl (by decide) (iC (iC (iC (iC trivial)))) trivial rfl zL rfl, v3, (BitVec.ofInt 64 ((8 : Int) * (s0.length : Int))), ([] : List UInt8), 0, Nat.le_refl _, jG h, rfl⟩ ?_
    rintro k_6s _ ⟨v3_4, v4, v5, v6, k_6h, h, rfl⟩
    obtain ⟨k_6, rfl, h9⟩ := run_succ h; replace h := h9; clear h9; rw [step_ref03_Fill] at h
    refine QW.seq ?_
    refine sR ?_
    refine xm 19 (pI v6) ?_
    refine xs 20 rfl (sf_lss (a := v6) (b := (8 : Int)) rfl rfl rfl ?_)
    refine XK.nz ?_
    refine QW.cond (t := (decide (v6 < (8 : Int)))) rfl zL (fun hb_7 => ?_) (fun hb_7 => ?_)
    · replace h := bGT h hb_7
      refine QW.skip zL (nrm ?_)
      refine QW.seq ?_
      refine QW.block ?_
      refine sR ?_
      refine xm 23 (.d (.val (.int .u64 (v4.toNat : Int)))) ?_
      refine xs 24 rfl (sf_wrem' (a := v4) (b := (256 : BitVec 64)) rfl rfl rfl (by decide) ?_)
      refine xs 25 rfl (sf_toU8 (n := ((v4 % (256 : BitVec 64)).toNat : Int)) rfl TT.under_66 TT.under_5 rfl ?_)
      refine xs 26 rfl (sf_row (en := byteD) (l := ([(u8I ((v4 % (256 : BitVec 64)).toNat : Int))] : List UInt8)) rfl TT.rowA_32 lay_byte rfl rfl (by decide) (by simp [solids, partsP, evP, ofVal, PV.solid, putS_at, tab, unS, unT, unC, asCond, Value.oneCell']) ?_)
      refine xs 27 rfl (sf_b2s (l := ([(u8I ((v4 % (256 : BitVec 64)).toNat : Int))] : List UInt8)) rfl TT.under_32 TT.under_5 TT.under_9 rfl ?_)
      refine xm 28 (pS v5) ?_
      obtain ⟨c_8, h⟩ := gG h
      refine xs 29 rfl (sf_cat (a := ([(u8I ((v4 % (256 : BitVec 64)).toNat : Int))] : List UInt8)) (b := v5) rfl rfl rfl c_8 ?_)
      refine xz 5 (pS (([(u8I ((v4 % (256 : BitVec 64)).toNat : Int))] : List UInt8) ++ v5)) ?_
      refine rG ?_
      refine xm 30 (.d (.val (.int .u64 (v4.toNat : Int)))) ?_
      refine xs 31 rfl (sf_wquo' (a := v4) (b := (256 : BitVec 64)) rfl rfl rfl (by decide) ?_)
      refine xa 4 (.d (.val (.int .u64 ((v4 / (256 : BitVec 64)).toNat : Int)))) ?_
      refine XK.nil (blN (nrm ?_))
      refine rG ?_
      refine xm 21 (pI v6) ?_
      obtain ⟨c_9, h⟩ := gG h
      refine xs 22 rfl (sf_add (a := v6) (b := (1 : Int)) rfl rfl rfl c_9 ?_)
      refine xz 6 (pI (v6 + (1 : Int))) ?_
      exact ⟨k_6, by omega, ⟨tab [(3, pS v3_4), (4, .d (.val (.int .u64 ((v4 / (256 : BitVec 64)).toNat : Int)))), (5, pS (([(u8I ((v4 % (256 : BitVec 64)).toNat : Int))] : List UInt8) ++ v5)), (6, pI (v6 + (1 : Int)))], tabH [], 0, []⟩, View.mk 0 [] _ _ _ rfl rfl (by decide) (iC (iC (iC (iC trivial)))) trivial rfl zL rfl, v3_4, (v4 / (256 : BitVec 64)), (([(u8I ((v4 % (256 : BitVec 64)).toNat : Int))] : List UInt8) ++ v5), (v6 + (1 : Int)), by omega, jG h, rfl⟩
    · replace h := bGF h hb_7
      refine QW.exit zL (thX (thX (exE (nrm ?_))))
      refine sR ?_
      refine xm 32 (pS v3_4) ?_
      refine xm 33 (pS v5) ?_
      obtain ⟨c_10, h⟩ := gG h
      refine xs 34 rfl (sf_cat (a := v3_4) (b := v5) rfl rfl rfl c_10 ?_)
      refine xz 2 (pS (v3_4 ++ v5)) ?_
      refine QW.ret zL ?_
      obtain rfl := sG h
      exact Ends.one (.inr rfl) rfl (ResIs.tmp rfl) rfl rfl
inductive C_ref03_turn where
  | S
  | L1 (x0_2 : (BitVec 64)) (v5 : Int)
noncomputable def step_ref03_turn (x0 : (BitVec 64)) (n1 : Int) : C_ref03_turn → Option (C_ref03_turn ⊕ (BitVec 64))
  | .S =>
    some (.inl (.L1 x0 (0)))
  | .L1 x0_2 v5 =>
    (bif (decide (v5 < n1)) then
    gO (inI (v5 + (1 : Int))) (
    some (.inl (.L1 ((x0_2 / (2 : BitVec 64)) + ((x0_2 % (2 : BitVec 64)) * (2147483648 : BitVec 64))) (v5 + (1 : Int)))))
    else
    some (.inr x0_2))
noncomputable def g_ref03_turn (x0 : (BitVec 64)) (n1 : Int) : Option (BitVec 64) := theC (step_ref03_turn x0 n1) .S
theorem sim_ref03_turn (x0 : (BitVec 64)) (n1 : Int) (r : (BitVec 64)) (h : g_ref03_turn x0 n1 = some r) : Fun Try.prog 43 [.val (.int .u64 (x0.toNat : Int)), .val (.int .i64 n1)] (.val (.int .u64 (r.toNat : Int))) := by
  refine Fun.of_bodyQ Try.func43 rfl (by simp [Try.ntmps43]) ?_
  rw [Try.ntmps43, TT.res_43]
  refine QW.view (s' := ⟨tab [(0, .d (.val (.int .u64 (x0.toNat : Int)))), (1, pI n1)], tabH [], 0, []⟩) (View.init (by rfl)) zL ?_
  replace h := theC_get h
  obtain ⟨_, h⟩ := h
  obtain ⟨k_0, rfl, h9⟩ := run_succ h; replace h := h9; clear h9; rw [step_ref03_turn] at h
  refine sR ?_
  refine xz 4 (.d (.val (.int .u64 ((0 : BitVec 64).toNat : Int)))) ?_
  refine QW.seq ?_
  refine sR ?_
  refine xz 5 (pI (0)) ?_
  refine QW.block ?_
  refine QW.loop (fun k σ => ∃ x0_2 : (BitVec 64), ∃ v5 : Int, k ≤ k_0 ∧ run (step_ref03_turn x0 n1) k (.L1 x0_2 v5) = some r ∧ σ = ⟨tab [(0, .d (.val (.int .u64 (x0_2.toNat : Int)))), (1, pI n1), (5, pI v5)], tabH [], 0, []⟩) k_0 zL ⟨⟨tab [(0, .d (.val (.int .u64 (x0.toNat : Int)))), (1, pI n1), (5, pI (0))], tabH [], 0, []⟩, View.mk 0 [] _ _ _ rfl rfl (by decide) (iC (iC (iC trivial))) trivial rfl zL rfl, x0, 0, Nat.le_refl _, jG h, rfl⟩ ?_
  rintro k_1s _ ⟨x0_2, v5, k_1h, h, rfl⟩
  obtain ⟨k_1, rfl, h9⟩ := run_succ h; replace h := h9; clear h9; rw [step_ref03_turn] at h
  refine QW.seq ?_
  refine sR ?_
  refine xm 6 (pI v5) ?_
  refine xm 7 (pI n1) ?_
  refine xs 8 rfl (sf_lss (a := v5) (b := n1) rfl rfl rfl ?_)
  refine XK.nz ?_
  refine QW.cond (t := (decide (v5 < n1))) rfl zL (fun hb_2 => ?_) (fun hb_2 => ?_)
  · replace h := bGT h hb_2
    refine QW.skip zL (nrm ?_)
    refine QW.seq ?_
    refine QW.block ?_
    refine rG ?_
    refine xm 11 (.d (.val (.int .u64 (x0_2.toNat : Int)))) ?_
    refine xs 12 rfl (sf_wquo' (a := x0_2) (b := (2 : BitVec 64)) rfl rfl rfl (by decide) ?_)
    refine xm 13 (.d (.val (.int .u64 (x0_2.toNat : Int)))) ?_
    refine xs 14 rfl (sf_wrem' (a := x0_2) (b := (2 : BitVec 64)) rfl rfl rfl (by decide) ?_)
    refine xs 15 rfl (sf_wmul' (a := (x0_2 % (2 : BitVec 64))) (b := (2147483648 : BitVec 64)) rfl rfl rfl ?_)
    refine xs 16 rfl (sf_wadd' (a := (x0_2 / (2 : BitVec 64))) (b := ((x0_2 % (2 : BitVec 64)) * (2147483648 : BitVec 64))) rfl rfl rfl ?_)
    refine xa 0 (.d (.val (.int .u64 (((x0_2 / (2 : BitVec 64)) + ((x0_2 % (2 : BitVec 64)) * (2147483648 : BitVec 64))).toNat : Int)))) ?_
    refine XK.nil (blN (nrm ?_))
    refine rG ?_
    refine xm 9 (pI v5) ?_
    obtain ⟨c_3, h⟩ := gG h
    refine xs 10 rfl (sf_add (a := v5) (b := (1 : Int)) rfl rfl rfl c_3 ?_)
    refine xz 5 (pI (v5 + (1 : Int))) ?_
    exact ⟨k_1, by omega, ⟨tab [(0, .d (.val (.int .u64 (((x0_2 / (2 : BitVec 64)) + ((x0_2 % (2 : BitVec 64)) * (2147483648 : BitVec 64))).toNat : Int)))), (1, pI n1), (5, pI (v5 + (1 : Int)))], tabH [], 0, []⟩, View.mk 0 [] _ _ _ rfl rfl (by decide) (iC (iC (iC trivial))) trivial rfl zL rfl, ((x0_2 / (2 : BitVec 64)) + ((x0_2 % (2 : BitVec 64)) * (2147483648 : BitVec 64))), (v5 + (1 : Int)), by omega, jG h, rfl⟩
  · replace h := bGF h hb_2
    refine QW.exit zL (thX (thX (exE (nrm ?_))))
    refine sR ?_
    refine xm 17 (.d (.val (.int .u64 (x0_2.toNat : Int)))) ?_
    refine xz 4 (.d (.val (.int .u64 (x0_2.toNat : Int)))) ?_
    refine QW.ret zL ?_
    obtain rfl := sG h
    exact Ends.one (.inr rfl) rfl (ResIs.tmp rfl) rfl rfl
inductive C_ref03_shift where
  | S
  | L1 (x0_2 : (BitVec 64)) (v5 : Int)
noncomputable def step_ref03_shift (x0 : (BitVec 64)) (n1 : Int) : C_ref03_shift → Option (C_ref03_shift ⊕ (BitVec 64))
  | .S =>
    some (.inl (.L1 x0 (0)))
  | .L1 x0_2 v5 =>
    (bif (decide (v5 < n1)) then
    gO (inI (v5 + (1 : Int))) (
    some (.inl (.L1 (x0_2 / (2 : BitVec 64)) (v5 + (1 : Int)))))
    else
    some (.inr x0_2))
noncomputable def g_ref03_shift (x0 : (BitVec 64)) (n1 : Int) : Option (BitVec 64) := theC (step_ref03_shift x0 n1) .S
theorem sim_ref03_shift (x0 : (BitVec 64)) (n1 : Int) (r : (BitVec 64)) (h : g_ref03_shift x0 n1 = some r) : Fun Try.prog 44 [.val (.int .u64 (x0.toNat : Int)), .val (.int .i64 n1)] (.val (.int .u64 (r.toNat : Int))) := by
  refine Fun.of_bodyQ Try.func44 rfl (by simp [Try.ntmps44]) ?_
  rw [Try.ntmps44, TT.res_44]
  refine QW.view (s' := ⟨tab [(0, .d (.val (.int .u64 (x0.toNat : Int)))), (1, pI n1)], tabH [], 0, []⟩) (View.init (by rfl)) zL ?_
  replace h := theC_get h
  obtain ⟨_, h⟩ := h
  obtain ⟨k_0, rfl, h9⟩ := run_succ h; replace h := h9; clear h9; rw [step_ref03_shift] at h
  refine sR ?_
  refine xz 4 (.d (.val (.int .u64 ((0 : BitVec 64).toNat : Int)))) ?_
  refine QW.seq ?_
  refine sR ?_
  refine xz 5 (pI (0)) ?_
  refine QW.block ?_
  refine QW.loop (fun k σ => ∃ x0_2 : (BitVec 64), ∃ v5 : Int, k ≤ k_0 ∧ run (step_ref03_shift x0 n1) k (.L1 x0_2 v5) = some r ∧ σ = ⟨tab [(0, .d (.val (.int .u64 (x0_2.toNat : Int)))), (1, pI n1), (5, pI v5)], tabH [], 0, []⟩) k_0 zL ⟨⟨tab [(0, .d (.val (.int .u64 (x0.toNat : Int)))), (1, pI n1), (5, pI (0))], tabH [], 0, []⟩, View.mk 0 [] _ _ _ rfl rfl (by decide) (iC (iC (iC trivial))) trivial rfl zL rfl, x0, 0, Nat.le_refl _, jG h, rfl⟩ ?_
  rintro k_1s _ ⟨x0_2, v5, k_1h, h, rfl⟩
  obtain ⟨k_1, rfl, h9⟩ := run_succ h; replace h := h9; clear h9; rw [step_ref03_shift] at h
  refine QW.seq ?_
  refine sR ?_
  refine xm 6 (pI v5) ?_
  refine xm 7 (pI n1) ?_
  refine xs 8 rfl (sf_lss (a := v5) (b := n1) rfl rfl rfl ?_)
  refine XK.nz ?_
  refine QW.cond (t := (decide (v5 < n1))) rfl zL (fun hb_2 => ?_) (fun hb_2 => ?_)
  · replace h := bGT h hb_2
    refine QW.skip zL (nrm ?_)
    refine QW.seq ?_
    refine QW.block ?_
    refine rG ?_
    refine xm 11 (.d (.val (.int .u64 (x0_2.toNat : Int)))) ?_
    refine xs 12 rfl (sf_wquo' (a := x0_2) (b := (2 : BitVec 64)) rfl rfl rfl (by decide) ?_)
    refine xa 0 (.d (.val (.int .u64 ((x0_2 / (2 : BitVec 64)).toNat : Int)))) ?_
    refine XK.nil (blN (nrm ?_))
    refine rG ?_
    refine xm 9 (pI v5) ?_
    obtain ⟨c_3, h⟩ := gG h
    refine xs 10 rfl (sf_add (a := v5) (b := (1 : Int)) rfl rfl rfl c_3 ?_)
    refine xz 5 (pI (v5 + (1 : Int))) ?_
    exact ⟨k_1, by omega, ⟨tab [(0, .d (.val (.int .u64 ((x0_2 / (2 : BitVec 64)).toNat : Int)))), (1, pI n1), (5, pI (v5 + (1 : Int)))], tabH [], 0, []⟩, View.mk 0 [] _ _ _ rfl rfl (by decide) (iC (iC (iC trivial))) trivial rfl zL rfl, (x0_2 / (2 : BitVec 64)), (v5 + (1 : Int)), by omega, jG h, rfl⟩
  · replace h := bGF h hb_2
    refine QW.exit zL (thX (thX (exE (nrm ?_))))
    refine sR ?_
    refine xm 13 (.d (.val (.int .u64 (x0_2.toNat : Int)))) ?_
    refine xz 4 (.d (.val (.int .u64 (x0_2.toNat : Int)))) ?_
    refine QW.ret zL ?_
    obtain rfl := sG h
    exact Ends.one (.inr rfl) rfl (ResIs.tmp rfl) rfl rfl
noncomputable def g_ref03_low (x0 : (BitVec 64)) : Option (BitVec 64) :=
    some (x0 % (4294967296 : BitVec 64))
theorem sim_ref03_low (x0 : (BitVec 64)) (r : (BitVec 64)) (h : g_ref03_low x0 = some r) : Fun Try.prog 45 [.val (.int .u64 (x0.toNat : Int))] (.val (.int .u64 (r.toNat : Int))) := by
  refine Fun.of_bodyQ Try.func45 rfl (by simp [Try.ntmps45]) ?_
  rw [Try.ntmps45, TT.res_45]
  refine QW.view (s' := ⟨tab [(0, .d (.val (.int .u64 (x0.toNat : Int))))], tabH [], 0, []⟩) (View.init (by rfl)) zL ?_
  unfold g_ref03_low at h
  refine sR ?_
  refine xz 2 (.d (.val (.int .u64 ((0 : BitVec 64).toNat : Int)))) ?_
  refine sR ?_
  refine xm 3 (.d (.val (.int .u64 (x0.toNat : Int)))) ?_
  refine xs 4 rfl (sf_wrem' (a := x0) (b := (4294967296 : BitVec 64)) rfl rfl rfl (by decide) ?_)
  refine xz 2 (.d (.val (.int .u64 ((x0 % (4294967296 : BitVec 64)).toNat : Int)))) ?_
  refine QW.ret zL ?_
  obtain rfl := sO h
  exact Ends.one (.inr rfl) rfl (ResIs.tmp rfl) rfl rfl
noncomputable def g_ref03_K (i0 : Int) : Option (BitVec 64) :=
    gO (0 ≤ i0 ∧ i0 < (([(1116352408 : BitVec 64), (1899447441 : BitVec 64), (3049323471 : BitVec 64), (3921009573 : BitVec 64), (961987163 : BitVec 64), (1508970993 : BitVec 64), (2453635748 : BitVec 64), (2870763221 : BitVec 64), (3624381080 : BitVec 64), (310598401 : BitVec 64), (607225278 : BitVec 64), (1426881987 : BitVec 64), (1925078388 : BitVec 64), (2162078206 : BitVec 64), (2614888103 : BitVec 64), (3248222580 : BitVec 64), (3835390401 : BitVec 64), (4022224774 : BitVec 64), (264347078 : BitVec 64), (604807628 : BitVec 64), (770255983 : BitVec 64), (1249150122 : BitVec 64), (1555081692 : BitVec 64), (1996064986 : BitVec 64), (2554220882 : BitVec 64), (2821834349 : BitVec 64), (2952996808 : BitVec 64), (3210313671 : BitVec 64), (3336571891 : BitVec 64), (3584528711 : BitVec 64), (113926993 : BitVec 64), (338241895 : BitVec 64), (666307205 : BitVec 64), (773529912 : BitVec 64), (1294757372 : BitVec 64), (1396182291 : BitVec 64), (1695183700 : BitVec 64), (1986661051 : BitVec 64), (2177026350 : BitVec 64), (2456956037 : BitVec 64), (2730485921 : BitVec 64), (2820302411 : BitVec 64), (3259730800 : BitVec 64), (3345764771 : BitVec 64), (3516065817 : BitVec 64), (3600352804 : BitVec 64), (4094571909 : BitVec 64), (275423344 : BitVec 64), (430227734 : BitVec 64), (506948616 : BitVec 64), (659060556 : BitVec 64), (883997877 : BitVec 64), (958139571 : BitVec 64), (1322822218 : BitVec 64), (1537002063 : BitVec 64), (1747873779 : BitVec 64), (1955562222 : BitVec 64), (2024104815 : BitVec 64), (2227730452 : BitVec 64), (2361852424 : BitVec 64), (2428436474 : BitVec 64), (2756734187 : BitVec 64), (3204031479 : BitVec 64), (3329325298 : BitVec 64)] : List (BitVec 64)).length : Int)) (
    some (idx ([(1116352408 : BitVec 64), (1899447441 : BitVec 64), (3049323471 : BitVec 64), (3921009573 : BitVec 64), (961987163 : BitVec 64), (1508970993 : BitVec 64), (2453635748 : BitVec 64), (2870763221 : BitVec 64), (3624381080 : BitVec 64), (310598401 : BitVec 64), (607225278 : BitVec 64), (1426881987 : BitVec 64), (1925078388 : BitVec 64), (2162078206 : BitVec 64), (2614888103 : BitVec 64), (3248222580 : BitVec 64), (3835390401 : BitVec 64), (4022224774 : BitVec 64), (264347078 : BitVec 64), (604807628 : BitVec 64), (770255983 : BitVec 64), (1249150122 : BitVec 64), (1555081692 : BitVec 64), (1996064986 : BitVec 64), (2554220882 : BitVec 64), (2821834349 : BitVec 64), (2952996808 : BitVec 64), (3210313671 : BitVec 64), (3336571891 : BitVec 64), (3584528711 : BitVec 64), (113926993 : BitVec 64), (338241895 : BitVec 64), (666307205 : BitVec 64), (773529912 : BitVec 64), (1294757372 : BitVec 64), (1396182291 : BitVec 64), (1695183700 : BitVec 64), (1986661051 : BitVec 64), (2177026350 : BitVec 64), (2456956037 : BitVec 64), (2730485921 : BitVec 64), (2820302411 : BitVec 64), (3259730800 : BitVec 64), (3345764771 : BitVec 64), (3516065817 : BitVec 64), (3600352804 : BitVec 64), (4094571909 : BitVec 64), (275423344 : BitVec 64), (430227734 : BitVec 64), (506948616 : BitVec 64), (659060556 : BitVec 64), (883997877 : BitVec 64), (958139571 : BitVec 64), (1322822218 : BitVec 64), (1537002063 : BitVec 64), (1747873779 : BitVec 64), (1955562222 : BitVec 64), (2024104815 : BitVec 64), (2227730452 : BitVec 64), (2361852424 : BitVec 64), (2428436474 : BitVec 64), (2756734187 : BitVec 64), (3204031479 : BitVec 64), (3329325298 : BitVec 64)] : List (BitVec 64)) i0))
theorem sim_ref03_K (i0 : Int) (r : (BitVec 64)) (h : g_ref03_K i0 = some r) : Fun Try.prog 46 [.val (.int .i64 i0)] (.val (.int .u64 (r.toNat : Int))) := by
  refine Fun.of_bodyQ Try.func46 rfl (by simp [Try.ntmps46]) ?_
  rw [Try.ntmps46, TT.res_46]
  refine QW.view (s' := ⟨tab [(0, pI i0)], tabH [], 0, []⟩) (View.init (by rfl)) zL ?_
  unfold g_ref03_K at h
  refine sR ?_
  refine xz 2 (.d (.val (.int .u64 ((0 : BitVec 64).toNat : Int)))) ?_
  refine sR ?_
  refine xs 4 rfl (sf_row (en := e64) (l := ([(1116352408 : BitVec 64), (1899447441 : BitVec 64), (3049323471 : BitVec 64), (3921009573 : BitVec 64), (961987163 : BitVec 64), (1508970993 : BitVec 64), (2453635748 : BitVec 64), (2870763221 : BitVec 64), (3624381080 : BitVec 64), (310598401 : BitVec 64), (607225278 : BitVec 64), (1426881987 : BitVec 64), (1925078388 : BitVec 64), (2162078206 : BitVec 64), (2614888103 : BitVec 64), (3248222580 : BitVec 64), (3835390401 : BitVec 64), (4022224774 : BitVec 64), (264347078 : BitVec 64), (604807628 : BitVec 64), (770255983 : BitVec 64), (1249150122 : BitVec 64), (1555081692 : BitVec 64), (1996064986 : BitVec 64), (2554220882 : BitVec 64), (2821834349 : BitVec 64), (2952996808 : BitVec 64), (3210313671 : BitVec 64), (3336571891 : BitVec 64), (3584528711 : BitVec 64), (113926993 : BitVec 64), (338241895 : BitVec 64), (666307205 : BitVec 64), (773529912 : BitVec 64), (1294757372 : BitVec 64), (1396182291 : BitVec 64), (1695183700 : BitVec 64), (1986661051 : BitVec 64), (2177026350 : BitVec 64), (2456956037 : BitVec 64), (2730485921 : BitVec 64), (2820302411 : BitVec 64), (3259730800 : BitVec 64), (3345764771 : BitVec 64), (3516065817 : BitVec 64), (3600352804 : BitVec 64), (4094571909 : BitVec 64), (275423344 : BitVec 64), (430227734 : BitVec 64), (506948616 : BitVec 64), (659060556 : BitVec 64), (883997877 : BitVec 64), (958139571 : BitVec 64), (1322822218 : BitVec 64), (1537002063 : BitVec 64), (1747873779 : BitVec 64), (1955562222 : BitVec 64), (2024104815 : BitVec 64), (2227730452 : BitVec 64), (2361852424 : BitVec 64), (2428436474 : BitVec 64), (2756734187 : BitVec 64), (3204031479 : BitVec 64), (3329325298 : BitVec 64)] : List (BitVec 64))) rfl TT.rowA_67 lay_64 rfl rfl (by decide) (by simp [solids, partsP, evP, ofVal, PV.solid, putS_at, tab, unS, unT, unC, asCond, Value.oneCell']) ?_)
  refine xz 3 (.full (([(1116352408 : BitVec 64), (1899447441 : BitVec 64), (3049323471 : BitVec 64), (3921009573 : BitVec 64), (961987163 : BitVec 64), (1508970993 : BitVec 64), (2453635748 : BitVec 64), (2870763221 : BitVec 64), (3624381080 : BitVec 64), (310598401 : BitVec 64), (607225278 : BitVec 64), (1426881987 : BitVec 64), (1925078388 : BitVec 64), (2162078206 : BitVec 64), (2614888103 : BitVec 64), (3248222580 : BitVec 64), (3835390401 : BitVec 64), (4022224774 : BitVec 64), (264347078 : BitVec 64), (604807628 : BitVec 64), (770255983 : BitVec 64), (1249150122 : BitVec 64), (1555081692 : BitVec 64), (1996064986 : BitVec 64), (2554220882 : BitVec 64), (2821834349 : BitVec 64), (2952996808 : BitVec 64), (3210313671 : BitVec 64), (3336571891 : BitVec 64), (3584528711 : BitVec 64), (113926993 : BitVec 64), (338241895 : BitVec 64), (666307205 : BitVec 64), (773529912 : BitVec 64), (1294757372 : BitVec 64), (1396182291 : BitVec 64), (1695183700 : BitVec 64), (1986661051 : BitVec 64), (2177026350 : BitVec 64), (2456956037 : BitVec 64), (2730485921 : BitVec 64), (2820302411 : BitVec 64), (3259730800 : BitVec 64), (3345764771 : BitVec 64), (3516065817 : BitVec 64), (3600352804 : BitVec 64), (4094571909 : BitVec 64), (275423344 : BitVec 64), (430227734 : BitVec 64), (506948616 : BitVec 64), (659060556 : BitVec 64), (883997877 : BitVec 64), (958139571 : BitVec 64), (1322822218 : BitVec 64), (1537002063 : BitVec 64), (1747873779 : BitVec 64), (1955562222 : BitVec 64), (2024104815 : BitVec 64), (2227730452 : BitVec 64), (2361852424 : BitVec 64), (2428436474 : BitVec 64), (2756734187 : BitVec 64), (3204031479 : BitVec 64), (3329325298 : BitVec 64)] : List (BitVec 64)).map e64)) ?_
  refine sR ?_
  refine xm 5 (.full (([(1116352408 : BitVec 64), (1899447441 : BitVec 64), (3049323471 : BitVec 64), (3921009573 : BitVec 64), (961987163 : BitVec 64), (1508970993 : BitVec 64), (2453635748 : BitVec 64), (2870763221 : BitVec 64), (3624381080 : BitVec 64), (310598401 : BitVec 64), (607225278 : BitVec 64), (1426881987 : BitVec 64), (1925078388 : BitVec 64), (2162078206 : BitVec 64), (2614888103 : BitVec 64), (3248222580 : BitVec 64), (3835390401 : BitVec 64), (4022224774 : BitVec 64), (264347078 : BitVec 64), (604807628 : BitVec 64), (770255983 : BitVec 64), (1249150122 : BitVec 64), (1555081692 : BitVec 64), (1996064986 : BitVec 64), (2554220882 : BitVec 64), (2821834349 : BitVec 64), (2952996808 : BitVec 64), (3210313671 : BitVec 64), (3336571891 : BitVec 64), (3584528711 : BitVec 64), (113926993 : BitVec 64), (338241895 : BitVec 64), (666307205 : BitVec 64), (773529912 : BitVec 64), (1294757372 : BitVec 64), (1396182291 : BitVec 64), (1695183700 : BitVec 64), (1986661051 : BitVec 64), (2177026350 : BitVec 64), (2456956037 : BitVec 64), (2730485921 : BitVec 64), (2820302411 : BitVec 64), (3259730800 : BitVec 64), (3345764771 : BitVec 64), (3516065817 : BitVec 64), (3600352804 : BitVec 64), (4094571909 : BitVec 64), (275423344 : BitVec 64), (430227734 : BitVec 64), (506948616 : BitVec 64), (659060556 : BitVec 64), (883997877 : BitVec 64), (958139571 : BitVec 64), (1322822218 : BitVec 64), (1537002063 : BitVec 64), (1747873779 : BitVec 64), (1955562222 : BitVec 64), (2024104815 : BitVec 64), (2227730452 : BitVec 64), (2361852424 : BitVec 64), (2428436474 : BitVec 64), (2756734187 : BitVec 64), (3204031479 : BitVec 64), (3329325298 : BitVec 64)] : List (BitVec 64)).map e64)) ?_
  refine xm 6 (pI i0) ?_
  obtain ⟨c_1, h⟩ := gO_get h
  refine xs 7 rfl (sf_idxA (l := ([(1116352408 : BitVec 64), (1899447441 : BitVec 64), (3049323471 : BitVec 64), (3921009573 : BitVec 64), (961987163 : BitVec 64), (1508970993 : BitVec 64), (2453635748 : BitVec 64), (2870763221 : BitVec 64), (3624381080 : BitVec 64), (310598401 : BitVec 64), (607225278 : BitVec 64), (1426881987 : BitVec 64), (1925078388 : BitVec 64), (2162078206 : BitVec 64), (2614888103 : BitVec 64), (3248222580 : BitVec 64), (3835390401 : BitVec 64), (4022224774 : BitVec 64), (264347078 : BitVec 64), (604807628 : BitVec 64), (770255983 : BitVec 64), (1249150122 : BitVec 64), (1555081692 : BitVec 64), (1996064986 : BitVec 64), (2554220882 : BitVec 64), (2821834349 : BitVec 64), (2952996808 : BitVec 64), (3210313671 : BitVec 64), (3336571891 : BitVec 64), (3584528711 : BitVec 64), (113926993 : BitVec 64), (338241895 : BitVec 64), (666307205 : BitVec 64), (773529912 : BitVec 64), (1294757372 : BitVec 64), (1396182291 : BitVec 64), (1695183700 : BitVec 64), (1986661051 : BitVec 64), (2177026350 : BitVec 64), (2456956037 : BitVec 64), (2730485921 : BitVec 64), (2820302411 : BitVec 64), (3259730800 : BitVec 64), (3345764771 : BitVec 64), (3516065817 : BitVec 64), (3600352804 : BitVec 64), (4094571909 : BitVec 64), (275423344 : BitVec 64), (430227734 : BitVec 64), (506948616 : BitVec 64), (659060556 : BitVec 64), (883997877 : BitVec 64), (958139571 : BitVec 64), (1322822218 : BitVec 64), (1537002063 : BitVec 64), (1747873779 : BitVec 64), (1955562222 : BitVec 64), (2024104815 : BitVec 64), (2227730452 : BitVec 64), (2361852424 : BitVec 64), (2428436474 : BitVec 64), (2756734187 : BitVec 64), (3204031479 : BitVec 64), (3329325298 : BitVec 64)] : List (BitVec 64))) (i := i0) rfl TT.slcA_67 lay_64 rfl rfl c_1 ?_)
  refine xs 8 rfl (sf_ldC (d := .val (.int .u64 ((idx ([(1116352408 : BitVec 64), (1899447441 : BitVec 64), (3049323471 : BitVec 64), (3921009573 : BitVec 64), (961987163 : BitVec 64), (1508970993 : BitVec 64), (2453635748 : BitVec 64), (2870763221 : BitVec 64), (3624381080 : BitVec 64), (310598401 : BitVec 64), (607225278 : BitVec 64), (1426881987 : BitVec 64), (1925078388 : BitVec 64), (2162078206 : BitVec 64), (2614888103 : BitVec 64), (3248222580 : BitVec 64), (3835390401 : BitVec 64), (4022224774 : BitVec 64), (264347078 : BitVec 64), (604807628 : BitVec 64), (770255983 : BitVec 64), (1249150122 : BitVec 64), (1555081692 : BitVec 64), (1996064986 : BitVec 64), (2554220882 : BitVec 64), (2821834349 : BitVec 64), (2952996808 : BitVec 64), (3210313671 : BitVec 64), (3336571891 : BitVec 64), (3584528711 : BitVec 64), (113926993 : BitVec 64), (338241895 : BitVec 64), (666307205 : BitVec 64), (773529912 : BitVec 64), (1294757372 : BitVec 64), (1396182291 : BitVec 64), (1695183700 : BitVec 64), (1986661051 : BitVec 64), (2177026350 : BitVec 64), (2456956037 : BitVec 64), (2730485921 : BitVec 64), (2820302411 : BitVec 64), (3259730800 : BitVec 64), (3345764771 : BitVec 64), (3516065817 : BitVec 64), (3600352804 : BitVec 64), (4094571909 : BitVec 64), (275423344 : BitVec 64), (430227734 : BitVec 64), (506948616 : BitVec 64), (659060556 : BitVec 64), (883997877 : BitVec 64), (958139571 : BitVec 64), (1322822218 : BitVec 64), (1537002063 : BitVec 64), (1747873779 : BitVec 64), (1955562222 : BitVec 64), (2024104815 : BitVec 64), (2227730452 : BitVec 64), (2361852424 : BitVec 64), (2428436474 : BitVec 64), (2756734187 : BitVec 64), (3204031479 : BitVec 64), (3329325298 : BitVec 64)] : List (BitVec 64)) i0).toNat : Int))) rfl TT.tyA_66 rfl (LdC.one) ?_)
  refine xz 2 (.d (.val (.int .u64 ((idx ([(1116352408 : BitVec 64), (1899447441 : BitVec 64), (3049323471 : BitVec 64), (3921009573 : BitVec 64), (961987163 : BitVec 64), (1508970993 : BitVec 64), (2453635748 : BitVec 64), (2870763221 : BitVec 64), (3624381080 : BitVec 64), (310598401 : BitVec 64), (607225278 : BitVec 64), (1426881987 : BitVec 64), (1925078388 : BitVec 64), (2162078206 : BitVec 64), (2614888103 : BitVec 64), (3248222580 : BitVec 64), (3835390401 : BitVec 64), (4022224774 : BitVec 64), (264347078 : BitVec 64), (604807628 : BitVec 64), (770255983 : BitVec 64), (1249150122 : BitVec 64), (1555081692 : BitVec 64), (1996064986 : BitVec 64), (2554220882 : BitVec 64), (2821834349 : BitVec 64), (2952996808 : BitVec 64), (3210313671 : BitVec 64), (3336571891 : BitVec 64), (3584528711 : BitVec 64), (113926993 : BitVec 64), (338241895 : BitVec 64), (666307205 : BitVec 64), (773529912 : BitVec 64), (1294757372 : BitVec 64), (1396182291 : BitVec 64), (1695183700 : BitVec 64), (1986661051 : BitVec 64), (2177026350 : BitVec 64), (2456956037 : BitVec 64), (2730485921 : BitVec 64), (2820302411 : BitVec 64), (3259730800 : BitVec 64), (3345764771 : BitVec 64), (3516065817 : BitVec 64), (3600352804 : BitVec 64), (4094571909 : BitVec 64), (275423344 : BitVec 64), (430227734 : BitVec 64), (506948616 : BitVec 64), (659060556 : BitVec 64), (883997877 : BitVec 64), (958139571 : BitVec 64), (1322822218 : BitVec 64), (1537002063 : BitVec 64), (1747873779 : BitVec 64), (1955562222 : BitVec 64), (2024104815 : BitVec 64), (2227730452 : BitVec 64), (2361852424 : BitVec 64), (2428436474 : BitVec 64), (2756734187 : BitVec 64), (3204031479 : BitVec 64), (3329325298 : BitVec 64)] : List (BitVec 64)) i0).toNat : Int)))) ?_
  refine QW.ret zL ?_
  obtain rfl := sO h
  exact Ends.one (.inr rfl) rfl (ResIs.tmp rfl) rfl rfl
inductive C_ref03_Block where
  | S
  | L1 (v5_2 : (List (BitVec 64))) (v6 : Int)
  | L3 (v5_13 : (List (BitVec 64))) (v6_12 : Int) (v7_7 : (BitVec 64)) (v8_10 : Int)
  | J2 (v5_11 : (List (BitVec 64))) (v6_10 : Int)
  | L4 (v5_16 : (List (BitVec 64))) (v11 : (List (BitVec 64))) (v12 : Int)
  | L5 (v11_4 : (List (BitVec 64))) (v19 : (List (BitVec 64))) (v20 : Int)
noncomputable def step_ref03_Block (h0 : (List (BitVec 64))) (s1 : (List UInt8)) : C_ref03_Block → Option (C_ref03_Block ⊕ (List (BitVec 64)))
  | .S =>
    some (.inl (.L1 ([] : (List (BitVec 64))) (0)))
  | .L1 v5_2 v6 =>
    (bif (decide (v6 < (64 : Int))) then
    (bif (decide (v6 < (16 : Int))) then
    gO (inI ((4 : Int) * v6)) (
    some (.inl (.L3 v5_2 v6 (0 : BitVec 64) ((4 : Int) * v6))))
    else
    gO (inI (v6 - (15 : Int))) (
    gO (0 ≤ (v6 - (15 : Int)) ∧ (v6 - (15 : Int)) < (v5_2.length : Int)) (
    gO (inI (v6 - (2 : Int))) (
    gO (0 ≤ (v6 - (2 : Int)) ∧ (v6 - (2 : Int)) < (v5_2.length : Int)) (
    ((g_ref03_turn (idx v5_2 (v6 - (15 : Int))) (7)).bind fun (x_16 : (BitVec 64)) =>
    ((g_ref03_turn (idx v5_2 (v6 - (15 : Int))) (18)).bind fun (x_18 : (BitVec 64)) =>
    ((g_ref03_shift (idx v5_2 (v6 - (15 : Int))) (3)).bind fun (x_20 : (BitVec 64)) =>
    ((g_ref03_turn (idx v5_2 (v6 - (2 : Int))) (17)).bind fun (x_22 : (BitVec 64)) =>
    ((g_ref03_turn (idx v5_2 (v6 - (2 : Int))) (19)).bind fun (x_24 : (BitVec 64)) =>
    ((g_ref03_shift (idx v5_2 (v6 - (2 : Int))) (10)).bind fun (x_26 : (BitVec 64)) =>
    gO (inI (v6 - (16 : Int))) (
    gO (0 ≤ (v6 - (16 : Int)) ∧ (v6 - (16 : Int)) < (v5_2.length : Int)) (
    gO (inI (v6 - (7 : Int))) (
    gO (0 ≤ (v6 - (7 : Int)) ∧ (v6 - (7 : Int)) < (v5_2.length : Int)) (
    ((g_ref03_low ((((idx v5_2 (v6 - (16 : Int))) + ((x_16 ^^^ x_18) ^^^ x_20)) + (idx v5_2 (v6 - (7 : Int)))) + ((x_22 ^^^ x_24) ^^^ x_26))).bind fun (x_32 : (BitVec 64)) =>
    gO ((v5_2.length + ([x_32] : List (BitVec 64)).length) * 8 ≤ 140737488355328) (
    some (.inl (.J2 (v5_2 ++ ([x_32] : List (BitVec 64))) v6)))))))))))))))))))
    else
    gO ((([] : List (BitVec 64)).length + h0.length) * 8 ≤ 140737488355328) (
    some (.inl (.L4 v5_2 (([] : List (BitVec 64)) ++ h0) (0)))))
  | .L3 v5_13 v6_12 v7_7 v8_10 =>
    gO (inI ((4 : Int) * v6_12)) (
    gO (inI (((4 : Int) * v6_12) + (4 : Int))) (
    (bif (decide (v8_10 < (((4 : Int) * v6_12) + (4 : Int)))) then
    gO (0 ≤ v8_10 ∧ v8_10 < (s1.length : Int)) (
    gO (inI (v8_10 + (1 : Int))) (
    some (.inl (.L3 v5_13 v6_12 (((256 : BitVec 64) * v7_7) + (BitVec.ofInt 64 ((idx s1 v8_10).toNat : Int))) (v8_10 + (1 : Int))))))
    else
    gO ((v5_13.length + ([v7_7] : List (BitVec 64)).length) * 8 ≤ 140737488355328) (
    some (.inl (.J2 (v5_13 ++ ([v7_7] : List (BitVec 64))) v6_12))))))
  | .J2 v5_11 v6_10 =>
    gO (inI (v6_10 + (1 : Int))) (
    some (.inl (.L1 v5_11 (v6_10 + (1 : Int)))))
  | .L4 v5_16 v11 v12 =>
    (bif (decide (v12 < (64 : Int))) then
    gO (0 ≤ (4 : Int) ∧ (4 : Int) < (v11.length : Int)) (
    gO (0 ≤ (0 : Int) ∧ (0 : Int) < (v11.length : Int)) (
    gO (0 ≤ (5 : Int) ∧ (5 : Int) < (v11.length : Int)) (
    gO (0 ≤ (6 : Int) ∧ (6 : Int) < (v11.length : Int)) (
    gO (0 ≤ (1 : Int) ∧ (1 : Int) < (v11.length : Int)) (
    gO (0 ≤ (2 : Int) ∧ (2 : Int) < (v11.length : Int)) (
    gO (0 ≤ (1 : Int) ∧ (1 : Int) < (v11.length : Int)) (
    gO (0 ≤ (2 : Int) ∧ (2 : Int) < (v11.length : Int)) (
    gO (0 ≤ (7 : Int) ∧ (7 : Int) < (v11.length : Int)) (
    ((g_ref03_turn (idx v11 (4 : Int)) (6)).bind fun (x_49 : (BitVec 64)) =>
    ((g_ref03_turn (idx v11 (4 : Int)) (11)).bind fun (x_51 : (BitVec 64)) =>
    ((g_ref03_turn (idx v11 (4 : Int)) (25)).bind fun (x_53 : (BitVec 64)) =>
    ((g_ref03_K v12).bind fun (x_55 : (BitVec 64)) =>
    gO (0 ≤ v12 ∧ v12 < (v5_16.length : Int)) (
    ((g_ref03_low (((((idx v11 (7 : Int)) + ((x_49 ^^^ x_51) ^^^ x_53)) + (((idx v11 (4 : Int)) &&& (idx v11 (5 : Int))) ||| (((4294967295 : BitVec 64) - (idx v11 (4 : Int))) &&& (idx v11 (6 : Int))))) + x_55) + (idx v5_16 v12))).bind fun (x_58 : (BitVec 64)) =>
    ((g_ref03_turn (idx v11 (0 : Int)) (2)).bind fun (x_60 : (BitVec 64)) =>
    ((g_ref03_turn (idx v11 (0 : Int)) (13)).bind fun (x_62 : (BitVec 64)) =>
    ((g_ref03_turn (idx v11 (0 : Int)) (22)).bind fun (x_64 : (BitVec 64)) =>
    ((g_ref03_low (((x_60 ^^^ x_62) ^^^ x_64) + ((((idx v11 (0 : Int)) &&& (idx v11 (1 : Int))) ||| ((idx v11 (0 : Int)) &&& (idx v11 (2 : Int)))) ||| ((idx v11 (1 : Int)) &&& (idx v11 (2 : Int)))))).bind fun (x_66 : (BitVec 64)) =>
    ((g_ref03_low (x_58 + x_66)).bind fun (x_68 : (BitVec 64)) =>
    gO (0 ≤ (0 : Int) ∧ (0 : Int) < (v11.length : Int)) (
    gO (0 ≤ (1 : Int) ∧ (1 : Int) < (v11.length : Int)) (
    gO (0 ≤ (2 : Int) ∧ (2 : Int) < (v11.length : Int)) (
    gO (0 ≤ (3 : Int) ∧ (3 : Int) < (v11.length : Int)) (
    ((g_ref03_low ((idx v11 (3 : Int)) + x_58)).bind fun (x_74 : (BitVec 64)) =>
    gO (0 ≤ (4 : Int) ∧ (4 : Int) < (v11.length : Int)) (
    gO (0 ≤ (5 : Int) ∧ (5 : Int) < (v11.length : Int)) (
    gO (0 ≤ (6 : Int) ∧ (6 : Int) < (v11.length : Int)) (
    gO (inI (v12 + (1 : Int))) (
    some (.inl (.L4 v5_16 ([x_68, (idx v11 (0 : Int)), (idx v11 (1 : Int)), (idx v11 (2 : Int)), x_74, (idx v11 (4 : Int)), (idx v11 (5 : Int)), (idx v11 (6 : Int))] : List (BitVec 64)) (v12 + (1 : Int)))))))))))))))))))))))))))))))))
    else
    some (.inl (.L5 v11 ([] : (List (BitVec 64))) (0))))
  | .L5 v11_4 v19 v20 =>
    (bif (decide (v20 < (8 : Int))) then
    gO (0 ≤ v20 ∧ v20 < (h0.length : Int)) (
    gO (0 ≤ v20 ∧ v20 < (v11_4.length : Int)) (
    ((g_ref03_low ((idx h0 v20) + (idx v11_4 v20))).bind fun (x_84 : (BitVec 64)) =>
    gO ((v19.length + ([x_84] : List (BitVec 64)).length) * 8 ≤ 140737488355328) (
    gO (inI (v20 + (1 : Int))) (
    some (.inl (.L5 v11_4 (v19 ++ ([x_84] : List (BitVec 64))) (v20 + (1 : Int)))))))))
    else
    some (.inr v19))
noncomputable def g_ref03_Block (h0 : (List (BitVec 64))) (s1 : (List UInt8)) : Option (List (BitVec 64)) := theC (step_ref03_Block h0 s1) .S
theorem sim_ref03_Block (h0 : (List (BitVec 64))) (s1 : (List UInt8)) (r : (List (BitVec 64))) (h : g_ref03_Block h0 s1 = some r) : Fun Try.prog 42 [.slice (h0.map e64), .val (sV s1)] (.slice (r.map e64)) := by
  refine Fun.of_bodyQ Try.func42 rfl (by simp [Try.ntmps42]) ?_
  rw [Try.ntmps42, TT.res_42]
  refine QW.view (s' := ⟨tab [(0, .d (.slice (h0.map e64))), (1, pS s1)], tabH [], 0, []⟩) (View.init (by rfl)) zL ?_
  replace h := theC_get h
  obtain ⟨_, h⟩ := h
  obtain ⟨k_0, rfl, h9⟩ := run_succ h; replace h := h9; clear h9; rw [step_ref03_Block] at h
  refine sR ?_
  refine xz 4 (.full (([] : (List (BitVec 64))).map e64)) ?_
  refine sR ?_
  refine xz 5 (.full (([] : (List (BitVec 64))).map e64)) ?_
  refine QW.seq ?_
  refine sR ?_
  refine xz 6 (pI (0)) ?_
  refine QW.block ?_
  refine QW.loop (fun k σ => ∃ v5_2 : (List (BitVec 64)), ∃ v6 : Int, k ≤ k_0 ∧ run (step_ref03_Block h0 s1) k (.L1 v5_2 v6) = some r ∧ σ = ⟨tab [(0, .d (.slice (h0.map e64))), (1, pS s1), (5, .own 0 (v5_2.map e64)), (6, pI v6)], tabH [.spare 1 v5_2.length], 1, []⟩) k_0 zL ⟨⟨tab [(0, .d (.slice (h0.map e64))), (1, pS s1), (5, .own 0 (([] : (List (BitVec 64))).map e64)), (6, pI (0))], tabH [.spare 1 ([] : (List (BitVec 64))).length], 1, []⟩, View.trans (View.buf 5 1 rfl zL) (View.mk 1 [0] _ _ _ rfl rfl (by decide) (iC (iC (iC (iC trivial)))) (And.intro rfl trivial) rfl zL rfl), ([] : (List (BitVec 64))), 0, Nat.le_refl _, jG h, rfl⟩ ?_
  rintro k_1s _ ⟨v5_2, v6, k_1h, h, rfl⟩
  obtain ⟨k_1, rfl, h9⟩ := run_succ h; replace h := h9; clear h9; rw [step_ref03_Block] at h
  refine QW.seq ?_
  refine sR ?_
  refine xm 21 (pI v6) ?_
  refine xs 22 rfl (sf_lss (a := v6) (b := (64 : Int)) rfl rfl rfl ?_)
  refine XK.nz ?_
  refine QW.cond (t := (decide (v6 < (64 : Int)))) rfl zL (fun hb_2 => ?_) (fun hb_2 => ?_)
  · replace h := bGT h hb_2
    refine QW.skip zL (nrm ?_)
    refine QW.seqI (fun s' => ∃ v5_11 : (List (BitVec 64)), ∃ v6_10 : Int, ∃ k : Nat, k ≤ k_1 ∧ run (step_ref03_Block h0 s1) k (.J2 v5_11 v6_10) = some r ∧ s' = ⟨tab [(0, .d (.slice (h0.map e64))), (1, pS s1), (5, .own 0 (v5_11.map e64)), (6, pI v6_10)], tabH [.spare 1 v5_11.length], 1, []⟩) ?_ ?_
    · refine QW.block ?_
      refine QW.seq ?_
      refine sR ?_
      refine xm 25 (pI v6) ?_
      refine xs 26 rfl (sf_lss (a := v6) (b := (16 : Int)) rfl rfl rfl ?_)
      refine XK.nz ?_
      refine QW.cond (t := (decide (v6 < (16 : Int)))) rfl zL (fun hb_3 => ?_) (fun hb_3 => ?_)
      · replace h := bGT h hb_3
        refine sR ?_
        refine xz 7 (.d (.val (.int .u64 ((0 : BitVec 64).toNat : Int)))) ?_
        refine QW.seq ?_
        refine sR ?_
        refine xm 27 (pI v6) ?_
        obtain ⟨c_4, h⟩ := gG h
        refine xs 28 rfl (sf_mul (a := (4 : Int)) (b := v6) rfl rfl rfl c_4 ?_)
        refine xz 8 (pI ((4 : Int) * v6)) ?_
        refine QW.block ?_
        refine QW.loop (fun k σ => ∃ v5_13 : (List (BitVec 64)), ∃ v6_12 : Int, ∃ v7_7 : (BitVec 64), ∃ v8_10 : Int, k ≤ k_1 ∧ run (step_ref03_Block h0 s1) k (.L3 v5_13 v6_12 v7_7 v8_10) = some r ∧ σ = ⟨tab [(0, .d (.slice (h0.map e64))), (1, pS s1), (5, .own 0 (v5_13.map e64)), (6, pI v6_12), (7, .d (.val (.int .u64 (v7_7.toNat : Int)))), (8, pI v8_10)], tabH [.spare 1 v5_13.length], 1, []⟩) k_1 zL ⟨⟨tab [(0, .d (.slice (h0.map e64))), (1, pS s1), (5, .own 0 (v5_2.map e64)), (6, pI v6), (7, .d (.val (.int .u64 ((0 : BitVec 64).toNat : Int)))), (8, pI ((4 : Int) * v6))], tabH [.spare 1 v5_2.length], 1, []⟩, View.mk 1 [0] _ _ _ rfl rfl (by decide) (iC (iC (iC (iC (iC (iC trivial)))))) (And.intro rfl trivial) rfl zL rfl, v5_2, v6, (0 : BitVec 64), ((4 : Int) * v6), Nat.le_refl _, jG h, rfl⟩ ?_
        rintro k_5s _ ⟨v5_13, v6_12, v7_7, v8_10, k_5h, h, rfl⟩
        obtain ⟨k_5, rfl, h9⟩ := run_succ h; replace h := h9; clear h9; rw [step_ref03_Block] at h
        refine QW.seq ?_
        refine sR ?_
        refine xm 29 (pI v8_10) ?_
        refine xm 30 (pI v6_12) ?_
        obtain ⟨c_6, h⟩ := gG h
        refine xs 31 rfl (sf_mul (a := (4 : Int)) (b := v6_12) rfl rfl rfl c_6 ?_)
        obtain ⟨c_7, h⟩ := gG h
        refine xs 32 rfl (sf_add (a := ((4 : Int) * v6_12)) (b := (4 : Int)) rfl rfl rfl c_7 ?_)
        refine xs 33 rfl (sf_lss (a := v8_10) (b := (((4 : Int) * v6_12) + (4 : Int))) rfl rfl rfl ?_)
        refine XK.nz ?_
        refine QW.cond (t := (decide (v8_10 < (((4 : Int) * v6_12) + (4 : Int))))) rfl zL (fun hb_8 => ?_) (fun hb_8 => ?_)
        · replace h := bGT h hb_8
          refine QW.skip zL (nrm ?_)
          refine QW.seq ?_
          refine QW.block ?_
          refine rG ?_
          refine xm 36 (.d (.val (.int .u64 (v7_7.toNat : Int)))) ?_
          refine xs 37 rfl (sf_wmul' (a := (256 : BitVec 64)) (b := v7_7) rfl rfl rfl ?_)
          refine xm 38 (pS s1) ?_
          refine xm 39 (pI v8_10) ?_
          obtain ⟨c_9, h⟩ := gG h
          refine xs 40 rfl (sf_idxS (l := s1) (i := v8_10) rfl TT.under_9 TT.arrA_9 rfl rfl c_9 ?_)
          refine xs 41 rfl (sf_toW (n := ((idx s1 v8_10).toNat : Int)) rfl TT.under_5 TT.under_66 rfl ?_)
          refine xs 42 rfl (sf_wadd' (a := ((256 : BitVec 64) * v7_7)) (b := (BitVec.ofInt 64 ((idx s1 v8_10).toNat : Int))) rfl rfl rfl ?_)
          refine xa 7 (.d (.val (.int .u64 ((((256 : BitVec 64) * v7_7) + (BitVec.ofInt 64 ((idx s1 v8_10).toNat : Int))).toNat : Int)))) ?_
          refine XK.nil (blN (nrm ?_))
          refine rG ?_
          refine xm 34 (pI v8_10) ?_
          obtain ⟨c_10, h⟩ := gG h
          refine xs 35 rfl (sf_add (a := v8_10) (b := (1 : Int)) rfl rfl rfl c_10 ?_)
          refine xz 8 (pI (v8_10 + (1 : Int))) ?_
          exact ⟨k_5, by omega, ⟨tab [(0, .d (.slice (h0.map e64))), (1, pS s1), (5, .own 0 (v5_13.map e64)), (6, pI v6_12), (7, .d (.val (.int .u64 ((((256 : BitVec 64) * v7_7) + (BitVec.ofInt 64 ((idx s1 v8_10).toNat : Int))).toNat : Int)))), (8, pI (v8_10 + (1 : Int)))], tabH [.spare 1 v5_13.length], 1, []⟩, View.mk 1 [0] _ _ _ rfl rfl (by decide) (iC (iC (iC (iC (iC (iC trivial)))))) (And.intro rfl trivial) rfl zL rfl, v5_13, v6_12, (((256 : BitVec 64) * v7_7) + (BitVec.ofInt 64 ((idx s1 v8_10).toNat : Int))), (v8_10 + (1 : Int)), by omega, jG h, rfl⟩
        · replace h := bGF h hb_8
          refine QW.exit zL (thX (thX (exE (nrm ?_))))
          refine sR ?_
          refine xm 43 (.own 0 (v5_13.map e64)) ?_
          refine xm 44 (.d (.val (.int .u64 (v7_7.toNat : Int)))) ?_
          refine xs 45 rfl (sf_row (en := e64) (l := ([v7_7] : List (BitVec 64))) rfl TT.rowA_67 lay_64 rfl rfl (by decide) (by simp [solids, partsP, evP, ofVal, PV.solid, putS_at, tab, unS, unT, unC, asCond, Value.oneCell']) ?_)
          obtain ⟨c_11, h⟩ := gG h
          refine xs 46 rfl (sf_appO (en := e64) (l := v5_13) (l2 := ([v7_7] : List (BitVec 64))) rfl TT.rowA_67 TT.under_67 rfl lay_64 rfl rfl rfl c_11 (by decide) ?_)
          refine xz 5 (.own 1 ((v5_13 ++ ([v7_7] : List (BitVec 64))).map e64)) ?_
          refine QW.exit zL (thX (exE (nrm ?_)))
          exact ⟨⟨tab [(0, .d (.slice (h0.map e64))), (1, pS s1), (5, .own 0 ((v5_13 ++ ([v7_7] : List (BitVec 64))).map e64)), (6, pI v6_12)], tabH [.spare 1 (v5_13 ++ ([v7_7] : List (BitVec 64))).length], 1, []⟩, View.mk 1 [1] _ _ _ rfl rfl (by decide) (iC (iC (iC (iC trivial)))) (And.intro rfl trivial) rfl zL rfl, (v5_13 ++ ([v7_7] : List (BitVec 64))), v6_12, k_5, by omega, jG h, rfl⟩
      · replace h := bGF h hb_3
        refine QW.skip zL (nrm ?_)
        refine sR ?_
        refine xm 47 (.own 0 (v5_2.map e64)) ?_
        refine xm 48 (pI v6) ?_
        obtain ⟨c_12, h⟩ := gG h
        refine xs 49 rfl (sf_sub (a := v6) (b := (15 : Int)) rfl rfl rfl c_12 ?_)
        obtain ⟨c_13, h⟩ := gG h
        refine xs 50 rfl (sf_idxA (l := v5_2) (i := (v6 - (15 : Int))) rfl TT.slcA_67 lay_64 rfl rfl c_13 ?_)
        refine xs 51 rfl (sf_ldC (d := .val (.int .u64 ((idx v5_2 (v6 - (15 : Int))).toNat : Int))) rfl TT.tyA_66 rfl (LdC.one) ?_)
        refine xz 9 (.d (.val (.int .u64 ((idx v5_2 (v6 - (15 : Int))).toNat : Int)))) ?_
        refine sR ?_
        refine xm 52 (.own 0 (v5_2.map e64)) ?_
        refine xm 53 (pI v6) ?_
        obtain ⟨c_14, h⟩ := gG h
        refine xs 54 rfl (sf_sub (a := v6) (b := (2 : Int)) rfl rfl rfl c_14 ?_)
        obtain ⟨c_15, h⟩ := gG h
        refine xs 55 rfl (sf_idxA (l := v5_2) (i := (v6 - (2 : Int))) rfl TT.slcA_67 lay_64 rfl rfl c_15 ?_)
        refine xs 56 rfl (sf_ldC (d := .val (.int .u64 ((idx v5_2 (v6 - (2 : Int))).toNat : Int))) rfl TT.tyA_66 rfl (LdC.one) ?_)
        refine xz 10 (.d (.val (.int .u64 ((idx v5_2 (v6 - (2 : Int))).toNat : Int)))) ?_
        refine sR ?_
        refine xm 57 (.d (.val (.int .u64 ((idx v5_2 (v6 - (15 : Int))).toNat : Int)))) ?_
        obtain ⟨x_16, hx_17, h⟩ := bG h
        refine xs 58 rfl (sf_call rfl rfl TT.enters_43 rfl (sim_ref03_turn (idx v5_2 (v6 - (15 : Int))) (7) _ hx_17) ?_)
        refine xm 59 (.d (.val (.int .u64 ((idx v5_2 (v6 - (15 : Int))).toNat : Int)))) ?_
        obtain ⟨x_18, hx_19, h⟩ := bG h
        refine xs 60 rfl (sf_call rfl rfl TT.enters_43 rfl (sim_ref03_turn (idx v5_2 (v6 - (15 : Int))) (18) _ hx_19) ?_)
        refine xs 61 rfl (sf_wxor' (a := x_16) (b := x_18) rfl rfl rfl ?_)
        refine xm 62 (.d (.val (.int .u64 ((idx v5_2 (v6 - (15 : Int))).toNat : Int)))) ?_
        obtain ⟨x_20, hx_21, h⟩ := bG h
        refine xs 63 rfl (sf_call rfl rfl TT.enters_44 rfl (sim_ref03_shift (idx v5_2 (v6 - (15 : Int))) (3) _ hx_21) ?_)
        refine xs 64 rfl (sf_wxor' (a := (x_16 ^^^ x_18)) (b := x_20) rfl rfl rfl ?_)
        refine xz 9 (.d (.val (.int .u64 (((x_16 ^^^ x_18) ^^^ x_20).toNat : Int)))) ?_
        refine QW.seq ?_
        refine QW.view (s' := ⟨tab [(0, .d (.slice (h0.map e64))), (1, pS s1), (5, .own 0 (v5_2.map e64)), (6, pI v6), (9, .d (.val (.int .u64 (((x_16 ^^^ x_18) ^^^ x_20).toNat : Int)))), (10, .d (.val (.int .u64 ((idx v5_2 (v6 - (2 : Int))).toNat : Int))))], tabH [.spare 1 v5_2.length], 1, []⟩) (View.mk 1 [0] _ _ _ rfl rfl (by decide) (iC (iC (iC (iC (iC (iC trivial)))))) (And.intro rfl trivial) rfl zL rfl) zL ?_
        refine rG ?_
        refine xm 65 (.d (.val (.int .u64 ((idx v5_2 (v6 - (2 : Int))).toNat : Int)))) ?_
        obtain ⟨x_22, hx_23, h⟩ := bG h
        refine xs 66 rfl (sf_call rfl rfl TT.enters_43 rfl (sim_ref03_turn (idx v5_2 (v6 - (2 : Int))) (17) _ hx_23) ?_)
        refine xm 67 (.d (.val (.int .u64 ((idx v5_2 (v6 - (2 : Int))).toNat : Int)))) ?_
        obtain ⟨x_24, hx_25, h⟩ := bG h
        refine xs 68 rfl (sf_call rfl rfl TT.enters_43 rfl (sim_ref03_turn (idx v5_2 (v6 - (2 : Int))) (19) _ hx_25) ?_)
        refine xs 69 rfl (sf_wxor' (a := x_22) (b := x_24) rfl rfl rfl ?_)
        refine xm 70 (.d (.val (.int .u64 ((idx v5_2 (v6 - (2 : Int))).toNat : Int)))) ?_
        obtain ⟨x_26, hx_27, h⟩ := bG h
        refine xs 71 rfl (sf_call rfl rfl TT.enters_44 rfl (sim_ref03_shift (idx v5_2 (v6 - (2 : Int))) (10) _ hx_27) ?_)
        refine xs 72 rfl (sf_wxor' (a := (x_22 ^^^ x_24)) (b := x_26) rfl rfl rfl ?_)
        refine xz 10 (.d (.val (.int .u64 (((x_22 ^^^ x_24) ^^^ x_26).toNat : Int)))) ?_
        refine QW.region zL (PW.regK (id := 16) mixedX (M := _) rfl (by kernel_rfl) ?_)
        refine RK.st (some 73) rfl rfl (sf_move (v := .own 0 (v5_2.map e64)) rfl rfl ?_)
        refine RK.st (some 74) rfl rfl (sf_move (v := .own 0 (v5_2.map e64)) rfl rfl ?_)
        refine RK.st (some 75) rfl rfl (sf_move (v := pI v6) rfl rfl ?_)
        obtain ⟨c_28, h⟩ := gG h
        refine RK.st (some 76) rfl rfl (sf_sub (a := v6) (b := (16 : Int)) rfl rfl rfl c_28 ?_)
        obtain ⟨c_29, h⟩ := gG h
        refine RK.st (some 77) rfl rfl (sf_idxA (l := v5_2) (i := (v6 - (16 : Int))) rfl TT.slcA_67 lay_64 rfl rfl c_29 ?_)
        refine RK.st (some 78) rfl rfl (sf_ldC (d := .val (.int .u64 ((idx v5_2 (v6 - (16 : Int))).toNat : Int))) rfl TT.tyA_66 rfl (LdC.one) ?_)
        refine RK.st (some 79) rfl rfl (sf_move (v := .d (.val (.int .u64 (((x_16 ^^^ x_18) ^^^ x_20).toNat : Int)))) rfl rfl ?_)
        refine RK.st (some 80) rfl rfl (sf_wadd' (a := (idx v5_2 (v6 - (16 : Int)))) (b := ((x_16 ^^^ x_18) ^^^ x_20)) rfl rfl rfl ?_)
        refine RK.st (some 81) rfl rfl (sf_move (v := .own 0 (v5_2.map e64)) rfl rfl ?_)
        refine RK.st (some 82) rfl rfl (sf_move (v := pI v6) rfl rfl ?_)
        obtain ⟨c_30, h⟩ := gG h
        refine RK.st (some 83) rfl rfl (sf_sub (a := v6) (b := (7 : Int)) rfl rfl rfl c_30 ?_)
        obtain ⟨c_31, h⟩ := gG h
        refine RK.st (some 84) rfl rfl (sf_idxA (l := v5_2) (i := (v6 - (7 : Int))) rfl TT.slcA_67 lay_64 rfl rfl c_31 ?_)
        refine RK.st (some 85) rfl rfl (sf_ldC (d := .val (.int .u64 ((idx v5_2 (v6 - (7 : Int))).toNat : Int))) rfl TT.tyA_66 rfl (LdC.one) ?_)
        refine RK.st (some 86) rfl rfl (sf_wadd' (a := ((idx v5_2 (v6 - (16 : Int))) + ((x_16 ^^^ x_18) ^^^ x_20))) (b := (idx v5_2 (v6 - (7 : Int)))) rfl rfl rfl ?_)
        refine RK.st (some 87) rfl rfl (sf_move (v := .d (.val (.int .u64 (((x_22 ^^^ x_24) ^^^ x_26).toNat : Int)))) rfl rfl ?_)
        refine RK.st (some 88) rfl rfl (sf_wadd' (a := (((idx v5_2 (v6 - (16 : Int))) + ((x_16 ^^^ x_18) ^^^ x_20)) + (idx v5_2 (v6 - (7 : Int))))) (b := ((x_22 ^^^ x_24) ^^^ x_26)) rfl rfl rfl ?_)
        obtain ⟨x_32, hx_33, h⟩ := bG h
        refine RK.st (some 89) rfl rfl (sf_call rfl rfl TT.enters_45 rfl (sim_ref03_low ((((idx v5_2 (v6 - (16 : Int))) + ((x_16 ^^^ x_18) ^^^ x_20)) + (idx v5_2 (v6 - (7 : Int)))) + ((x_22 ^^^ x_24) ^^^ x_26)) _ hx_33) ?_)
        refine RK.st (some 90) rfl rfl (sf_row (en := e64) (l := ([x_32] : List (BitVec 64))) rfl TT.rowA_67 lay_64 rfl rfl (by decide) (by simp [solids, partsP, evP, ofVal, PV.solid, putS_at, tab, unS, unT, unC, asCond, Value.oneCell']) ?_)
        obtain ⟨c_34, h⟩ := gG h
        refine RK.st (some 91) rfl rfl (sf_appO (en := e64) (l := v5_2) (l2 := ([x_32] : List (BitVec 64))) rfl TT.rowA_67 TT.under_67 rfl lay_64 rfl rfl rfl c_34 (by decide) ?_)
        refine RK.st (some 5) rfl rfl (sf_assign (v := .own 1 ((v5_2 ++ ([x_32] : List (BitVec 64))).map e64)) rfl rfl ?_)
        refine RK.nil ⟨RecsOK.last 18 (by simp) (by simp) (by rfl), (blN (nrm ?_))⟩
        exact ⟨⟨tab [(0, .d (.slice (h0.map e64))), (1, pS s1), (5, .own 0 ((v5_2 ++ ([x_32] : List (BitVec 64))).map e64)), (6, pI v6)], tabH [.spare 1 (v5_2 ++ ([x_32] : List (BitVec 64))).length], 1, []⟩, View.mk 1 [1] _ _ _ rfl rfl (by decide) (iC (iC (iC (iC trivial)))) (And.intro rfl trivial) rfl zL rfl, (v5_2 ++ ([x_32] : List (BitVec 64))), v6, k_1, by omega, jG h, rfl⟩
    · rintro _ ⟨v5_11, v6_10, k_35s, k_35h, h, rfl⟩
      obtain ⟨k_35, rfl, h9⟩ := run_succ h; replace h := h9; clear h9; rw [step_ref03_Block] at h
      refine rG ?_
      refine xm 23 (pI v6_10) ?_
      obtain ⟨c_36, h⟩ := gG h
      refine xs 24 rfl (sf_add (a := v6_10) (b := (1 : Int)) rfl rfl rfl c_36 ?_)
      refine xz 6 (pI (v6_10 + (1 : Int))) ?_
      exact ⟨k_35, by omega, ⟨tab [(0, .d (.slice (h0.map e64))), (1, pS s1), (5, .own 0 (v5_11.map e64)), (6, pI (v6_10 + (1 : Int)))], tabH [.spare 1 v5_11.length], 1, []⟩, View.mk 1 [0] _ _ _ rfl rfl (by decide) (iC (iC (iC (iC trivial)))) (And.intro rfl trivial) rfl zL rfl, v5_11, (v6_10 + (1 : Int)), by omega, jG h, rfl⟩
  · replace h := bGF h hb_2
    refine QW.exit zL (thX (thX (exE (nrm ?_))))
    refine sR ?_
    refine xs 92 rfl (sf_row (en := e64) (l := ([] : List (BitVec 64))) rfl TT.rowA_67 lay_64 rfl rfl (by decide) (by simp [solids, partsP, evP, ofVal, PV.solid, putS_at, tab, unS, unT, unC, asCond, Value.oneCell']) ?_)
    refine xm 93 (.d (.slice (h0.map e64))) ?_
    obtain ⟨c_37, h⟩ := gG h
    refine xs 94 rfl (sf_appF (en := e64) (l := ([] : List (BitVec 64))) (l2 := h0) rfl TT.rowA_67 TT.under_67 rfl lay_64 rfl rfl ⟨c_37, fun _ => rfl⟩ (by decide) ?_)
    refine xz 11 (.own 1 ((([] : List (BitVec 64)) ++ h0).map e64)) ?_
    refine QW.seq ?_
    refine sR ?_
    refine xz 12 (pI (0)) ?_
    refine QW.block ?_
    refine QW.loop (fun k σ => ∃ v5_16 : (List (BitVec 64)), ∃ v11 : (List (BitVec 64)), ∃ v12 : Int, k ≤ k_1 ∧ run (step_ref03_Block h0 s1) k (.L4 v5_16 v11 v12) = some r ∧ σ = ⟨tab [(0, .d (.slice (h0.map e64))), (5, .own 0 (v5_16.map e64)), (11, .d (.slice (v11.map e64))), (12, pI v12)], tabH [.spare 1 v5_16.length], 1, []⟩) k_1 zL ⟨⟨tab [(0, .d (.slice (h0.map e64))), (5, .own 0 (v5_2.map e64)), (11, .d (.slice ((([] : List (BitVec 64)) ++ h0).map e64))), (12, pI (0))], tabH [.spare 1 v5_2.length], 1, []⟩, View.mk 1 [0] _ _ _ rfl rfl (by decide) (iC (iC (And.intro (Imp.toD rfl) (iC trivial)))) (And.intro rfl trivial) rfl zL rfl, v5_2, (([] : List (BitVec 64)) ++ h0), 0, Nat.le_refl _, jG h, rfl⟩ ?_
    rintro k_38s _ ⟨v5_16, v11, v12, k_38h, h, rfl⟩
    obtain ⟨k_38, rfl, h9⟩ := run_succ h; replace h := h9; clear h9; rw [step_ref03_Block] at h
    refine QW.seq ?_
    refine sR ?_
    refine xm 95 (pI v12) ?_
    refine xs 96 rfl (sf_lss (a := v12) (b := (64 : Int)) rfl rfl rfl ?_)
    refine XK.nz ?_
    refine QW.cond (t := (decide (v12 < (64 : Int)))) rfl zL (fun hb_39 => ?_) (fun hb_39 => ?_)
    · replace h := bGT h hb_39
      refine QW.skip zL (nrm ?_)
      refine QW.seq ?_
      refine QW.block ?_
      refine sR ?_
      refine xm 99 (.d (.slice (v11.map e64))) ?_
      obtain ⟨c_40, h⟩ := gG h
      refine xs 100 rfl (sf_idxA (l := v11) (i := (4 : Int)) rfl TT.slcA_67 lay_64 rfl rfl c_40 ?_)
      refine xs 101 rfl (sf_ldC (d := .val (.int .u64 ((idx v11 (4 : Int)).toNat : Int))) rfl TT.tyA_66 rfl (LdC.one) ?_)
      refine xz 13 (.d (.val (.int .u64 ((idx v11 (4 : Int)).toNat : Int)))) ?_
      refine sR ?_
      refine xm 102 (.d (.slice (v11.map e64))) ?_
      obtain ⟨c_41, h⟩ := gG h
      refine xs 103 rfl (sf_idxA (l := v11) (i := (0 : Int)) rfl TT.slcA_67 lay_64 rfl rfl c_41 ?_)
      refine xs 104 rfl (sf_ldC (d := .val (.int .u64 ((idx v11 (0 : Int)).toNat : Int))) rfl TT.tyA_66 rfl (LdC.one) ?_)
      refine xz 14 (.d (.val (.int .u64 ((idx v11 (0 : Int)).toNat : Int)))) ?_
      refine QW.seq ?_
      refine QW.region zL (PW.regQ (id := 23) mixedX (M := _) rfl (by kernel_rfl) ?_)
      refine RQ.st (some 105) rfl rfl (sf_move (v := .d (.val (.int .u64 ((idx v11 (4 : Int)).toNat : Int)))) rfl rfl ⟨⟨rfl, rfl⟩, ?_⟩)
      refine RQ.st (some 106) rfl rfl (sf_move (v := .d (.slice (v11.map e64))) rfl rfl ⟨⟨rfl, rfl⟩, ?_⟩)
      obtain ⟨c_42, h⟩ := gG h
      refine RQ.st (some 107) rfl rfl (sf_idxA (l := v11) (i := (5 : Int)) rfl TT.slcA_67 lay_64 rfl rfl c_42 ⟨⟨rfl, rfl⟩, ?_⟩)
      refine RQ.st (some 108) rfl rfl (sf_ldC (d := .val (.int .u64 ((idx v11 (5 : Int)).toNat : Int))) rfl TT.tyA_66 rfl (LdC.one) ⟨⟨rfl, rfl⟩, ?_⟩)
      refine RQ.st (some 109) rfl rfl (sf_wand' (a := (idx v11 (4 : Int))) (b := (idx v11 (5 : Int))) rfl rfl rfl ⟨⟨rfl, rfl⟩, ?_⟩)
      refine RQ.st (some 110) rfl rfl (sf_move (v := .d (.val (.int .u64 ((idx v11 (4 : Int)).toNat : Int)))) rfl rfl ⟨⟨rfl, rfl⟩, ?_⟩)
      refine RQ.st (some 111) rfl rfl (sf_wsub' (a := (4294967295 : BitVec 64)) (b := (idx v11 (4 : Int))) rfl rfl rfl ⟨⟨rfl, rfl⟩, ?_⟩)
      refine RQ.st (some 112) rfl rfl (sf_move (v := .d (.slice (v11.map e64))) rfl rfl ⟨⟨rfl, rfl⟩, ?_⟩)
      obtain ⟨c_43, h⟩ := gG h
      refine RQ.st (some 113) rfl rfl (sf_idxA (l := v11) (i := (6 : Int)) rfl TT.slcA_67 lay_64 rfl rfl c_43 ⟨⟨rfl, rfl⟩, ?_⟩)
      refine RQ.st (some 114) rfl rfl (sf_ldC (d := .val (.int .u64 ((idx v11 (6 : Int)).toNat : Int))) rfl TT.tyA_66 rfl (LdC.one) ⟨⟨rfl, rfl⟩, ?_⟩)
      refine RQ.st (some 115) rfl rfl (sf_wand' (a := ((4294967295 : BitVec 64) - (idx v11 (4 : Int)))) (b := (idx v11 (6 : Int))) rfl rfl rfl ⟨⟨rfl, rfl⟩, ?_⟩)
      refine RQ.st (some 116) rfl rfl (sf_wor' (a := ((idx v11 (4 : Int)) &&& (idx v11 (5 : Int)))) (b := (((4294967295 : BitVec 64) - (idx v11 (4 : Int))) &&& (idx v11 (6 : Int)))) rfl rfl rfl ⟨⟨rfl, rfl⟩, ?_⟩)
      refine RQ.st (some 15) rfl rfl (sf_assign (v := .d (.val (.int .u64 ((((idx v11 (4 : Int)) &&& (idx v11 (5 : Int))) ||| (((4294967295 : BitVec 64) - (idx v11 (4 : Int))) &&& (idx v11 (6 : Int)))).toNat : Int)))) rfl rfl ⟨⟨rfl, rfl⟩, ?_⟩)
      refine RQ.nil (nrm ?_)
      refine QW.seq ?_
      refine QW.view (s' := ⟨tab [(0, .d (.slice (h0.map e64))), (5, .own 0 (v5_16.map e64)), (11, .d (.slice (v11.map e64))), (12, pI v12), (13, .d (.val (.int .u64 ((idx v11 (4 : Int)).toNat : Int)))), (14, .d (.val (.int .u64 ((idx v11 (0 : Int)).toNat : Int)))), (15, .d (.val (.int .u64 ((((idx v11 (4 : Int)) &&& (idx v11 (5 : Int))) ||| (((4294967295 : BitVec 64) - (idx v11 (4 : Int))) &&& (idx v11 (6 : Int)))).toNat : Int))))], tabH [.spare 1 v5_16.length], 1, []⟩) (View.mk 1 [0] _ _ _ rfl rfl (by decide) (iC (iC (iC (iC (iC (iC (iC trivial))))))) (And.intro rfl trivial) rfl zL rfl) zL ?_
      refine QW.region zL (PW.regQ (id := 24) mixedX (M := _) rfl (by kernel_rfl) ?_)
      refine RQ.st (some 117) rfl rfl (sf_move (v := .d (.val (.int .u64 ((idx v11 (0 : Int)).toNat : Int)))) rfl rfl ⟨⟨rfl, rfl⟩, ?_⟩)
      refine RQ.st (some 118) rfl rfl (sf_move (v := .d (.slice (v11.map e64))) rfl rfl ⟨⟨rfl, rfl⟩, ?_⟩)
      obtain ⟨c_44, h⟩ := gG h
      refine RQ.st (some 119) rfl rfl (sf_idxA (l := v11) (i := (1 : Int)) rfl TT.slcA_67 lay_64 rfl rfl c_44 ⟨⟨rfl, rfl⟩, ?_⟩)
      refine RQ.st (some 120) rfl rfl (sf_ldC (d := .val (.int .u64 ((idx v11 (1 : Int)).toNat : Int))) rfl TT.tyA_66 rfl (LdC.one) ⟨⟨rfl, rfl⟩, ?_⟩)
      refine RQ.st (some 121) rfl rfl (sf_wand' (a := (idx v11 (0 : Int))) (b := (idx v11 (1 : Int))) rfl rfl rfl ⟨⟨rfl, rfl⟩, ?_⟩)
      refine RQ.st (some 122) rfl rfl (sf_move (v := .d (.val (.int .u64 ((idx v11 (0 : Int)).toNat : Int)))) rfl rfl ⟨⟨rfl, rfl⟩, ?_⟩)
      refine RQ.st (some 123) rfl rfl (sf_move (v := .d (.slice (v11.map e64))) rfl rfl ⟨⟨rfl, rfl⟩, ?_⟩)
      obtain ⟨c_45, h⟩ := gG h
      refine RQ.st (some 124) rfl rfl (sf_idxA (l := v11) (i := (2 : Int)) rfl TT.slcA_67 lay_64 rfl rfl c_45 ⟨⟨rfl, rfl⟩, ?_⟩)
      refine RQ.st (some 125) rfl rfl (sf_ldC (d := .val (.int .u64 ((idx v11 (2 : Int)).toNat : Int))) rfl TT.tyA_66 rfl (LdC.one) ⟨⟨rfl, rfl⟩, ?_⟩)
      refine RQ.st (some 126) rfl rfl (sf_wand' (a := (idx v11 (0 : Int))) (b := (idx v11 (2 : Int))) rfl rfl rfl ⟨⟨rfl, rfl⟩, ?_⟩)
      refine RQ.st (some 127) rfl rfl (sf_wor' (a := ((idx v11 (0 : Int)) &&& (idx v11 (1 : Int)))) (b := ((idx v11 (0 : Int)) &&& (idx v11 (2 : Int)))) rfl rfl rfl ⟨⟨rfl, rfl⟩, ?_⟩)
      refine RQ.st (some 128) rfl rfl (sf_move (v := .d (.slice (v11.map e64))) rfl rfl ⟨⟨rfl, rfl⟩, ?_⟩)
      obtain ⟨c_46, h⟩ := gG h
      refine RQ.st (some 129) rfl rfl (sf_idxA (l := v11) (i := (1 : Int)) rfl TT.slcA_67 lay_64 rfl rfl c_46 ⟨⟨rfl, rfl⟩, ?_⟩)
      refine RQ.st (some 130) rfl rfl (sf_ldC (d := .val (.int .u64 ((idx v11 (1 : Int)).toNat : Int))) rfl TT.tyA_66 rfl (LdC.one) ⟨⟨rfl, rfl⟩, ?_⟩)
      refine RQ.st (some 131) rfl rfl (sf_move (v := .d (.slice (v11.map e64))) rfl rfl ⟨⟨rfl, rfl⟩, ?_⟩)
      obtain ⟨c_47, h⟩ := gG h
      refine RQ.st (some 132) rfl rfl (sf_idxA (l := v11) (i := (2 : Int)) rfl TT.slcA_67 lay_64 rfl rfl c_47 ⟨⟨rfl, rfl⟩, ?_⟩)
      refine RQ.st (some 133) rfl rfl (sf_ldC (d := .val (.int .u64 ((idx v11 (2 : Int)).toNat : Int))) rfl TT.tyA_66 rfl (LdC.one) ⟨⟨rfl, rfl⟩, ?_⟩)
      refine RQ.st (some 134) rfl rfl (sf_wand' (a := (idx v11 (1 : Int))) (b := (idx v11 (2 : Int))) rfl rfl rfl ⟨⟨rfl, rfl⟩, ?_⟩)
      refine RQ.st (some 135) rfl rfl (sf_wor' (a := (((idx v11 (0 : Int)) &&& (idx v11 (1 : Int))) ||| ((idx v11 (0 : Int)) &&& (idx v11 (2 : Int))))) (b := ((idx v11 (1 : Int)) &&& (idx v11 (2 : Int)))) rfl rfl rfl ⟨⟨rfl, rfl⟩, ?_⟩)
      refine RQ.st (some 16) rfl rfl (sf_assign (v := .d (.val (.int .u64 (((((idx v11 (0 : Int)) &&& (idx v11 (1 : Int))) ||| ((idx v11 (0 : Int)) &&& (idx v11 (2 : Int)))) ||| ((idx v11 (1 : Int)) &&& (idx v11 (2 : Int)))).toNat : Int)))) rfl rfl ⟨⟨rfl, rfl⟩, ?_⟩)
      refine RQ.nil (nrm ?_)
      refine QW.seq ?_
      refine QW.view (s' := ⟨tab [(0, .d (.slice (h0.map e64))), (5, .own 0 (v5_16.map e64)), (11, .d (.slice (v11.map e64))), (12, pI v12), (13, .d (.val (.int .u64 ((idx v11 (4 : Int)).toNat : Int)))), (14, .d (.val (.int .u64 ((idx v11 (0 : Int)).toNat : Int)))), (15, .d (.val (.int .u64 ((((idx v11 (4 : Int)) &&& (idx v11 (5 : Int))) ||| (((4294967295 : BitVec 64) - (idx v11 (4 : Int))) &&& (idx v11 (6 : Int)))).toNat : Int)))), (16, .d (.val (.int .u64 (((((idx v11 (0 : Int)) &&& (idx v11 (1 : Int))) ||| ((idx v11 (0 : Int)) &&& (idx v11 (2 : Int)))) ||| ((idx v11 (1 : Int)) &&& (idx v11 (2 : Int)))).toNat : Int))))], tabH [.spare 1 v5_16.length], 1, []⟩) (View.mk 1 [0] _ _ _ rfl rfl (by decide) (iC (iC (iC (iC (iC (iC (iC (iC trivial)))))))) (And.intro rfl trivial) rfl zL rfl) zL ?_
      refine QW.region zL (PW.regQ (id := 25) mixedX (M := _) rfl (by kernel_rfl) ?_)
      refine RQ.st (some 136) rfl rfl (sf_move (v := .d (.slice (v11.map e64))) rfl rfl ⟨⟨rfl, rfl⟩, ?_⟩)
      obtain ⟨c_48, h⟩ := gG h
      refine RQ.st (some 137) rfl rfl (sf_idxA (l := v11) (i := (7 : Int)) rfl TT.slcA_67 lay_64 rfl rfl c_48 ⟨⟨rfl, rfl⟩, ?_⟩)
      refine RQ.st (some 138) rfl rfl (sf_ldC (d := .val (.int .u64 ((idx v11 (7 : Int)).toNat : Int))) rfl TT.tyA_66 rfl (LdC.one) ⟨⟨rfl, rfl⟩, ?_⟩)
      refine RQ.st (some 139) rfl rfl (sf_move (v := .d (.val (.int .u64 ((idx v11 (4 : Int)).toNat : Int)))) rfl rfl ⟨⟨rfl, rfl⟩, ?_⟩)
      obtain ⟨x_49, hx_50, h⟩ := bG h
      refine RQ.st (some 140) rfl rfl (sf_call rfl rfl TT.enters_43 rfl (sim_ref03_turn (idx v11 (4 : Int)) (6) _ hx_50) ⟨⟨rfl, rfl⟩, ?_⟩)
      refine RQ.st (some 141) rfl rfl (sf_move (v := .d (.val (.int .u64 ((idx v11 (4 : Int)).toNat : Int)))) rfl rfl ⟨⟨rfl, rfl⟩, ?_⟩)
      obtain ⟨x_51, hx_52, h⟩ := bG h
      refine RQ.st (some 142) rfl rfl (sf_call rfl rfl TT.enters_43 rfl (sim_ref03_turn (idx v11 (4 : Int)) (11) _ hx_52) ⟨⟨rfl, rfl⟩, ?_⟩)
      refine RQ.st (some 143) rfl rfl (sf_wxor' (a := x_49) (b := x_51) rfl rfl rfl ⟨⟨rfl, rfl⟩, ?_⟩)
      refine RQ.st (some 144) rfl rfl (sf_move (v := .d (.val (.int .u64 ((idx v11 (4 : Int)).toNat : Int)))) rfl rfl ⟨⟨rfl, rfl⟩, ?_⟩)
      obtain ⟨x_53, hx_54, h⟩ := bG h
      refine RQ.st (some 145) rfl rfl (sf_call rfl rfl TT.enters_43 rfl (sim_ref03_turn (idx v11 (4 : Int)) (25) _ hx_54) ⟨⟨rfl, rfl⟩, ?_⟩)
      refine RQ.st (some 146) rfl rfl (sf_wxor' (a := (x_49 ^^^ x_51)) (b := x_53) rfl rfl rfl ⟨⟨rfl, rfl⟩, ?_⟩)
      refine RQ.st (some 147) rfl rfl (sf_wadd' (a := (idx v11 (7 : Int))) (b := ((x_49 ^^^ x_51) ^^^ x_53)) rfl rfl rfl ⟨⟨rfl, rfl⟩, ?_⟩)
      refine RQ.st (some 148) rfl rfl (sf_move (v := .d (.val (.int .u64 ((((idx v11 (4 : Int)) &&& (idx v11 (5 : Int))) ||| (((4294967295 : BitVec 64) - (idx v11 (4 : Int))) &&& (idx v11 (6 : Int)))).toNat : Int)))) rfl rfl ⟨⟨rfl, rfl⟩, ?_⟩)
      refine RQ.st (some 149) rfl rfl (sf_wadd' (a := ((idx v11 (7 : Int)) + ((x_49 ^^^ x_51) ^^^ x_53))) (b := (((idx v11 (4 : Int)) &&& (idx v11 (5 : Int))) ||| (((4294967295 : BitVec 64) - (idx v11 (4 : Int))) &&& (idx v11 (6 : Int))))) rfl rfl rfl ⟨⟨rfl, rfl⟩, ?_⟩)
      refine RQ.st (some 150) rfl rfl (sf_move (v := pI v12) rfl rfl ⟨⟨rfl, rfl⟩, ?_⟩)
      obtain ⟨x_55, hx_56, h⟩ := bG h
      refine RQ.st (some 151) rfl rfl (sf_call rfl rfl TT.enters_46 rfl (sim_ref03_K v12 _ hx_56) ⟨⟨rfl, rfl⟩, ?_⟩)
      refine RQ.st (some 152) rfl rfl (sf_wadd' (a := (((idx v11 (7 : Int)) + ((x_49 ^^^ x_51) ^^^ x_53)) + (((idx v11 (4 : Int)) &&& (idx v11 (5 : Int))) ||| (((4294967295 : BitVec 64) - (idx v11 (4 : Int))) &&& (idx v11 (6 : Int)))))) (b := x_55) rfl rfl rfl ⟨⟨rfl, rfl⟩, ?_⟩)
      refine RQ.st (some 153) rfl rfl (sf_move (v := .own 0 (v5_16.map e64)) rfl rfl ⟨⟨rfl, rfl⟩, ?_⟩)
      refine RQ.st (some 154) rfl rfl (sf_move (v := pI v12) rfl rfl ⟨⟨rfl, rfl⟩, ?_⟩)
      obtain ⟨c_57, h⟩ := gG h
      refine RQ.st (some 155) rfl rfl (sf_idxA (l := v5_16) (i := v12) rfl TT.slcA_67 lay_64 rfl rfl c_57 ⟨⟨rfl, rfl⟩, ?_⟩)
      refine RQ.st (some 156) rfl rfl (sf_ldC (d := .val (.int .u64 ((idx v5_16 v12).toNat : Int))) rfl TT.tyA_66 rfl (LdC.one) ⟨⟨rfl, rfl⟩, ?_⟩)
      refine RQ.st (some 157) rfl rfl (sf_wadd' (a := ((((idx v11 (7 : Int)) + ((x_49 ^^^ x_51) ^^^ x_53)) + (((idx v11 (4 : Int)) &&& (idx v11 (5 : Int))) ||| (((4294967295 : BitVec 64) - (idx v11 (4 : Int))) &&& (idx v11 (6 : Int))))) + x_55)) (b := (idx v5_16 v12)) rfl rfl rfl ⟨⟨rfl, rfl⟩, ?_⟩)
      obtain ⟨x_58, hx_59, h⟩ := bG h
      refine RQ.st (some 158) rfl rfl (sf_call rfl rfl TT.enters_45 rfl (sim_ref03_low (((((idx v11 (7 : Int)) + ((x_49 ^^^ x_51) ^^^ x_53)) + (((idx v11 (4 : Int)) &&& (idx v11 (5 : Int))) ||| (((4294967295 : BitVec 64) - (idx v11 (4 : Int))) &&& (idx v11 (6 : Int))))) + x_55) + (idx v5_16 v12)) _ hx_59) ⟨⟨rfl, rfl⟩, ?_⟩)
      refine RQ.st (some 17) rfl rfl (sf_assign (v := .d (.val (.int .u64 (x_58.toNat : Int)))) rfl rfl ⟨⟨rfl, rfl⟩, ?_⟩)
      refine RQ.nil (nrm ?_)
      refine QW.seq ?_
      refine QW.view (s' := ⟨tab [(0, .d (.slice (h0.map e64))), (5, .own 0 (v5_16.map e64)), (11, .d (.slice (v11.map e64))), (12, pI v12), (14, .d (.val (.int .u64 ((idx v11 (0 : Int)).toNat : Int)))), (16, .d (.val (.int .u64 (((((idx v11 (0 : Int)) &&& (idx v11 (1 : Int))) ||| ((idx v11 (0 : Int)) &&& (idx v11 (2 : Int)))) ||| ((idx v11 (1 : Int)) &&& (idx v11 (2 : Int)))).toNat : Int)))), (17, .d (.val (.int .u64 (x_58.toNat : Int))))], tabH [.spare 1 v5_16.length], 1, []⟩) (View.mk 1 [0] _ _ _ rfl rfl (by decide) (iC (iC (iC (iC (iC (iC (iC trivial))))))) (And.intro rfl trivial) rfl zL rfl) zL ?_
      refine rG ?_
      refine xm 159 (.d (.val (.int .u64 ((idx v11 (0 : Int)).toNat : Int)))) ?_
      obtain ⟨x_60, hx_61, h⟩ := bG h
      refine xs 160 rfl (sf_call rfl rfl TT.enters_43 rfl (sim_ref03_turn (idx v11 (0 : Int)) (2) _ hx_61) ?_)
      refine xm 161 (.d (.val (.int .u64 ((idx v11 (0 : Int)).toNat : Int)))) ?_
      obtain ⟨x_62, hx_63, h⟩ := bG h
      refine xs 162 rfl (sf_call rfl rfl TT.enters_43 rfl (sim_ref03_turn (idx v11 (0 : Int)) (13) _ hx_63) ?_)
      refine xs 163 rfl (sf_wxor' (a := x_60) (b := x_62) rfl rfl rfl ?_)
      refine xm 164 (.d (.val (.int .u64 ((idx v11 (0 : Int)).toNat : Int)))) ?_
      obtain ⟨x_64, hx_65, h⟩ := bG h
      refine xs 165 rfl (sf_call rfl rfl TT.enters_43 rfl (sim_ref03_turn (idx v11 (0 : Int)) (22) _ hx_65) ?_)
      refine xs 166 rfl (sf_wxor' (a := (x_60 ^^^ x_62)) (b := x_64) rfl rfl rfl ?_)
      refine xm 167 (.d (.val (.int .u64 (((((idx v11 (0 : Int)) &&& (idx v11 (1 : Int))) ||| ((idx v11 (0 : Int)) &&& (idx v11 (2 : Int)))) ||| ((idx v11 (1 : Int)) &&& (idx v11 (2 : Int)))).toNat : Int)))) ?_
      refine xs 168 rfl (sf_wadd' (a := ((x_60 ^^^ x_62) ^^^ x_64)) (b := ((((idx v11 (0 : Int)) &&& (idx v11 (1 : Int))) ||| ((idx v11 (0 : Int)) &&& (idx v11 (2 : Int)))) ||| ((idx v11 (1 : Int)) &&& (idx v11 (2 : Int))))) rfl rfl rfl ?_)
      obtain ⟨x_66, hx_67, h⟩ := bG h
      refine xs 169 rfl (sf_call rfl rfl TT.enters_45 rfl (sim_ref03_low (((x_60 ^^^ x_62) ^^^ x_64) + ((((idx v11 (0 : Int)) &&& (idx v11 (1 : Int))) ||| ((idx v11 (0 : Int)) &&& (idx v11 (2 : Int)))) ||| ((idx v11 (1 : Int)) &&& (idx v11 (2 : Int))))) _ hx_67) ?_)
      refine xz 18 (.d (.val (.int .u64 (x_66.toNat : Int)))) ?_
      refine QW.region zL (PW.regQ (id := 27) mixedX (M := _) rfl (by kernel_rfl) ?_)
      refine RQ.st (some 170) rfl rfl (sf_move (v := .d (.val (.int .u64 (x_58.toNat : Int)))) rfl rfl ⟨⟨rfl, rfl⟩, ?_⟩)
      refine RQ.st (some 171) rfl rfl (sf_move (v := .d (.val (.int .u64 (x_66.toNat : Int)))) rfl rfl ⟨⟨rfl, rfl⟩, ?_⟩)
      refine RQ.st (some 172) rfl rfl (sf_wadd' (a := x_58) (b := x_66) rfl rfl rfl ⟨⟨rfl, rfl⟩, ?_⟩)
      obtain ⟨x_68, hx_69, h⟩ := bG h
      refine RQ.st (some 173) rfl rfl (sf_call rfl rfl TT.enters_45 rfl (sim_ref03_low (x_58 + x_66) _ hx_69) ⟨⟨rfl, rfl⟩, ?_⟩)
      refine RQ.st (some 174) rfl rfl (sf_move (v := .d (.slice (v11.map e64))) rfl rfl ⟨⟨rfl, rfl⟩, ?_⟩)
      obtain ⟨c_70, h⟩ := gG h
      refine RQ.st (some 175) rfl rfl (sf_idxA (l := v11) (i := (0 : Int)) rfl TT.slcA_67 lay_64 rfl rfl c_70 ⟨⟨rfl, rfl⟩, ?_⟩)
      refine RQ.st (some 176) rfl rfl (sf_ldC (d := .val (.int .u64 ((idx v11 (0 : Int)).toNat : Int))) rfl TT.tyA_66 rfl (LdC.one) ⟨⟨rfl, rfl⟩, ?_⟩)
      refine RQ.st (some 177) rfl rfl (sf_move (v := .d (.slice (v11.map e64))) rfl rfl ⟨⟨rfl, rfl⟩, ?_⟩)
      obtain ⟨c_71, h⟩ := gG h
      refine RQ.st (some 178) rfl rfl (sf_idxA (l := v11) (i := (1 : Int)) rfl TT.slcA_67 lay_64 rfl rfl c_71 ⟨⟨rfl, rfl⟩, ?_⟩)
      refine RQ.st (some 179) rfl rfl (sf_ldC (d := .val (.int .u64 ((idx v11 (1 : Int)).toNat : Int))) rfl TT.tyA_66 rfl (LdC.one) ⟨⟨rfl, rfl⟩, ?_⟩)
      refine RQ.st (some 180) rfl rfl (sf_move (v := .d (.slice (v11.map e64))) rfl rfl ⟨⟨rfl, rfl⟩, ?_⟩)
      obtain ⟨c_72, h⟩ := gG h
      refine RQ.st (some 181) rfl rfl (sf_idxA (l := v11) (i := (2 : Int)) rfl TT.slcA_67 lay_64 rfl rfl c_72 ⟨⟨rfl, rfl⟩, ?_⟩)
      refine RQ.st (some 182) rfl rfl (sf_ldC (d := .val (.int .u64 ((idx v11 (2 : Int)).toNat : Int))) rfl TT.tyA_66 rfl (LdC.one) ⟨⟨rfl, rfl⟩, ?_⟩)
      refine RQ.st (some 183) rfl rfl (sf_move (v := .d (.slice (v11.map e64))) rfl rfl ⟨⟨rfl, rfl⟩, ?_⟩)
      obtain ⟨c_73, h⟩ := gG h
      refine RQ.st (some 184) rfl rfl (sf_idxA (l := v11) (i := (3 : Int)) rfl TT.slcA_67 lay_64 rfl rfl c_73 ⟨⟨rfl, rfl⟩, ?_⟩)
      refine RQ.st (some 185) rfl rfl (sf_ldC (d := .val (.int .u64 ((idx v11 (3 : Int)).toNat : Int))) rfl TT.tyA_66 rfl (LdC.one) ⟨⟨rfl, rfl⟩, ?_⟩)
      refine RQ.st (some 186) rfl rfl (sf_move (v := .d (.val (.int .u64 (x_58.toNat : Int)))) rfl rfl ⟨⟨rfl, rfl⟩, ?_⟩)
      refine RQ.st (some 187) rfl rfl (sf_wadd' (a := (idx v11 (3 : Int))) (b := x_58) rfl rfl rfl ⟨⟨rfl, rfl⟩, ?_⟩)
      obtain ⟨x_74, hx_75, h⟩ := bG h
      refine RQ.st (some 188) rfl rfl (sf_call rfl rfl TT.enters_45 rfl (sim_ref03_low ((idx v11 (3 : Int)) + x_58) _ hx_75) ⟨⟨rfl, rfl⟩, ?_⟩)
      refine RQ.st (some 189) rfl rfl (sf_move (v := .d (.slice (v11.map e64))) rfl rfl ⟨⟨rfl, rfl⟩, ?_⟩)
      obtain ⟨c_76, h⟩ := gG h
      refine RQ.st (some 190) rfl rfl (sf_idxA (l := v11) (i := (4 : Int)) rfl TT.slcA_67 lay_64 rfl rfl c_76 ⟨⟨rfl, rfl⟩, ?_⟩)
      refine RQ.st (some 191) rfl rfl (sf_ldC (d := .val (.int .u64 ((idx v11 (4 : Int)).toNat : Int))) rfl TT.tyA_66 rfl (LdC.one) ⟨⟨rfl, rfl⟩, ?_⟩)
      refine RQ.st (some 192) rfl rfl (sf_move (v := .d (.slice (v11.map e64))) rfl rfl ⟨⟨rfl, rfl⟩, ?_⟩)
      obtain ⟨c_77, h⟩ := gG h
      refine RQ.st (some 193) rfl rfl (sf_idxA (l := v11) (i := (5 : Int)) rfl TT.slcA_67 lay_64 rfl rfl c_77 ⟨⟨rfl, rfl⟩, ?_⟩)
      refine RQ.st (some 194) rfl rfl (sf_ldC (d := .val (.int .u64 ((idx v11 (5 : Int)).toNat : Int))) rfl TT.tyA_66 rfl (LdC.one) ⟨⟨rfl, rfl⟩, ?_⟩)
      refine RQ.st (some 195) rfl rfl (sf_move (v := .d (.slice (v11.map e64))) rfl rfl ⟨⟨rfl, rfl⟩, ?_⟩)
      obtain ⟨c_78, h⟩ := gG h
      refine RQ.st (some 196) rfl rfl (sf_idxA (l := v11) (i := (6 : Int)) rfl TT.slcA_67 lay_64 rfl rfl c_78 ⟨⟨rfl, rfl⟩, ?_⟩)
      refine RQ.st (some 197) rfl rfl (sf_ldC (d := .val (.int .u64 ((idx v11 (6 : Int)).toNat : Int))) rfl TT.tyA_66 rfl (LdC.one) ⟨⟨rfl, rfl⟩, ?_⟩)
      refine RQ.st (some 198) rfl rfl (sf_row (en := e64) (l := ([x_68, (idx v11 (0 : Int)), (idx v11 (1 : Int)), (idx v11 (2 : Int)), x_74, (idx v11 (4 : Int)), (idx v11 (5 : Int)), (idx v11 (6 : Int))] : List (BitVec 64))) rfl TT.rowA_67 lay_64 rfl rfl (by decide) (by simp [solids, partsP, evP, ofVal, PV.solid, putS_at, tab, unS, unT, unC, asCond, Value.oneCell']) ⟨⟨rfl, rfl⟩, ?_⟩)
      refine RQ.st (some 11) rfl rfl (sf_assign (v := .full (([x_68, (idx v11 (0 : Int)), (idx v11 (1 : Int)), (idx v11 (2 : Int)), x_74, (idx v11 (4 : Int)), (idx v11 (5 : Int)), (idx v11 (6 : Int))] : List (BitVec 64)).map e64)) rfl rfl ⟨⟨rfl, rfl⟩, ?_⟩)
      refine RQ.nil (blN (nrm ?_))
      refine QW.view (s' := ⟨tab [(0, .d (.slice (h0.map e64))), (5, .own 0 (v5_16.map e64)), (11, .full (([x_68, (idx v11 (0 : Int)), (idx v11 (1 : Int)), (idx v11 (2 : Int)), x_74, (idx v11 (4 : Int)), (idx v11 (5 : Int)), (idx v11 (6 : Int))] : List (BitVec 64)).map e64)), (12, pI v12)], tabH [.spare 1 v5_16.length], 1, []⟩) (View.mk 1 [0] _ _ _ rfl rfl (by decide) (iC (iC (iC (iC trivial)))) (And.intro rfl trivial) rfl zL rfl) zL ?_
      refine rG ?_
      refine xm 97 (pI v12) ?_
      obtain ⟨c_79, h⟩ := gG h
      refine xs 98 rfl (sf_add (a := v12) (b := (1 : Int)) rfl rfl rfl c_79 ?_)
      refine xz 12 (pI (v12 + (1 : Int))) ?_
      exact ⟨k_38, by omega, ⟨tab [(0, .d (.slice (h0.map e64))), (5, .own 0 (v5_16.map e64)), (11, .d (.slice (([x_68, (idx v11 (0 : Int)), (idx v11 (1 : Int)), (idx v11 (2 : Int)), x_74, (idx v11 (4 : Int)), (idx v11 (5 : Int)), (idx v11 (6 : Int))] : List (BitVec 64)).map e64))), (12, pI (v12 + (1 : Int)))], tabH [.spare 1 v5_16.length], 1, []⟩, View.mk 1 [0] _ _ _ rfl rfl (by decide) (iC (iC (And.intro (Imp.toD rfl) (iC trivial)))) (And.intro rfl trivial) rfl zL rfl, v5_16, ([x_68, (idx v11 (0 : Int)), (idx v11 (1 : Int)), (idx v11 (2 : Int)), x_74, (idx v11 (4 : Int)), (idx v11 (5 : Int)), (idx v11 (6 : Int))] : List (BitVec 64)), (v12 + (1 : Int)), by omega, jG h, rfl⟩
    · replace h := bGF h hb_39
      refine QW.exit zL (thX (thX (exE (nrm ?_))))
      refine sR ?_
      refine xz 19 (.full (([] : (List (BitVec 64))).map e64)) ?_
      refine QW.seq ?_
      refine sR ?_
      refine xz 20 (pI (0)) ?_
      refine QW.block ?_
      refine QW.loop (fun k σ => ∃ v11_4 : (List (BitVec 64)), ∃ v19 : (List (BitVec 64)), ∃ v20 : Int, k ≤ k_38 ∧ run (step_ref03_Block h0 s1) k (.L5 v11_4 v19 v20) = some r ∧ σ = ⟨tab [(0, .d (.slice (h0.map e64))), (11, .d (.slice (v11_4.map e64))), (19, .own 0 (v19.map e64)), (20, pI v20)], tabH [.spare 1 v19.length], 1, []⟩) k_38 zL ⟨⟨tab [(0, .d (.slice (h0.map e64))), (11, .d (.slice (v11.map e64))), (19, .own 0 (([] : (List (BitVec 64))).map e64)), (20, pI (0))], tabH [.spare 1 ([] : (List (BitVec 64))).length], 1, []⟩, View.trans (View.buf 19 1 rfl zL) (View.mk 1 [1] _ _ _ rfl rfl (by decide) (iC (iC (iC (iC trivial)))) (And.intro rfl trivial) rfl zL rfl), v11, ([] : (List (BitVec 64))), 0, Nat.le_refl _, jG h, rfl⟩ ?_
      rintro k_80s _ ⟨v11_4, v19, v20, k_80h, h, rfl⟩
      obtain ⟨k_80, rfl, h9⟩ := run_succ h; replace h := h9; clear h9; rw [step_ref03_Block] at h
      refine QW.seq ?_
      refine sR ?_
      refine xm 199 (pI v20) ?_
      refine xs 200 rfl (sf_lss (a := v20) (b := (8 : Int)) rfl rfl rfl ?_)
      refine XK.nz ?_
      refine QW.cond (t := (decide (v20 < (8 : Int)))) rfl zL (fun hb_81 => ?_) (fun hb_81 => ?_)
      · replace h := bGT h hb_81
        refine QW.skip zL (nrm ?_)
        refine QW.seq ?_
        refine QW.block ?_
        refine QW.region zL (PW.regK (id := 32) mixedX (M := _) rfl (by kernel_rfl) ?_)
        refine RK.st (some 203) rfl rfl (sf_move (v := .own 0 (v19.map e64)) rfl rfl ?_)
        refine RK.st (some 204) rfl rfl (sf_move (v := .d (.slice (h0.map e64))) rfl rfl ?_)
        refine RK.st (some 205) rfl rfl (sf_move (v := pI v20) rfl rfl ?_)
        obtain ⟨c_82, h⟩ := gG h
        refine RK.st (some 206) rfl rfl (sf_idxA (l := h0) (i := v20) rfl TT.slcA_67 lay_64 rfl rfl c_82 ?_)
        refine RK.st (some 207) rfl rfl (sf_ldC (d := .val (.int .u64 ((idx h0 v20).toNat : Int))) rfl TT.tyA_66 rfl (LdC.one) ?_)
        refine RK.st (some 208) rfl rfl (sf_move (v := .d (.slice (v11_4.map e64))) rfl rfl ?_)
        refine RK.st (some 209) rfl rfl (sf_move (v := pI v20) rfl rfl ?_)
        obtain ⟨c_83, h⟩ := gG h
        refine RK.st (some 210) rfl rfl (sf_idxA (l := v11_4) (i := v20) rfl TT.slcA_67 lay_64 rfl rfl c_83 ?_)
        refine RK.st (some 211) rfl rfl (sf_ldC (d := .val (.int .u64 ((idx v11_4 v20).toNat : Int))) rfl TT.tyA_66 rfl (LdC.one) ?_)
        refine RK.st (some 212) rfl rfl (sf_wadd' (a := (idx h0 v20)) (b := (idx v11_4 v20)) rfl rfl rfl ?_)
        obtain ⟨x_84, hx_85, h⟩ := bG h
        refine RK.st (some 213) rfl rfl (sf_call rfl rfl TT.enters_45 rfl (sim_ref03_low ((idx h0 v20) + (idx v11_4 v20)) _ hx_85) ?_)
        refine RK.st (some 214) rfl rfl (sf_row (en := e64) (l := ([x_84] : List (BitVec 64))) rfl TT.rowA_67 lay_64 rfl rfl (by decide) (by simp [solids, partsP, evP, ofVal, PV.solid, putS_at, tab, unS, unT, unC, asCond, Value.oneCell']) ?_)
        obtain ⟨c_86, h⟩ := gG h
        refine RK.st (some 215) rfl rfl (sf_appO (en := e64) (l := v19) (l2 := ([x_84] : List (BitVec 64))) rfl TT.rowA_67 TT.under_67 rfl lay_64 rfl rfl rfl c_86 (by decide) ?_)
        refine RK.st (some 19) rfl rfl (sf_assign (v := .own 1 ((v19 ++ ([x_84] : List (BitVec 64))).map e64)) rfl rfl ?_)
        refine RK.nil ⟨RecsOK.last 12 (by simp) (by simp) (by rfl), (blN (nrm ?_))⟩
        refine rG ?_
        refine xm 201 (pI v20) ?_
        obtain ⟨c_87, h⟩ := gG h
        refine xs 202 rfl (sf_add (a := v20) (b := (1 : Int)) rfl rfl rfl c_87 ?_)
        refine xz 20 (pI (v20 + (1 : Int))) ?_
        exact ⟨k_80, by omega, ⟨tab [(0, .d (.slice (h0.map e64))), (11, .d (.slice (v11_4.map e64))), (19, .own 0 ((v19 ++ ([x_84] : List (BitVec 64))).map e64)), (20, pI (v20 + (1 : Int)))], tabH [.spare 1 (v19 ++ ([x_84] : List (BitVec 64))).length], 1, []⟩, View.mk 1 [1] _ _ _ rfl rfl (by decide) (iC (iC (iC (iC trivial)))) (And.intro rfl trivial) rfl zL rfl, v11_4, (v19 ++ ([x_84] : List (BitVec 64))), (v20 + (1 : Int)), by omega, jG h, rfl⟩
      · replace h := bGF h hb_81
        refine QW.exit zL (thX (thX (exE (nrm ?_))))
        refine sR ?_
        refine xm 216 (.own 0 (v19.map e64)) ?_
        refine xz 4 (.own 0 (v19.map e64)) ?_
        refine QW.ret zL ?_
        obtain rfl := sG h
        exact Ends.one (.inr rfl) rfl (ResIs.tmp rfl) rfl rfl
inductive C_ref03_Of where
  | S
  | L1 (v3 : (List (BitVec 64))) (v4_2 : (List UInt8)) (v5 : Int)
  | L2 (v3_7 : (List (BitVec 64))) (v6 : (List UInt8)) (v7 : Int)
  | L3 (v3_13 : (List (BitVec 64))) (v6_7 : (List UInt8)) (v7_7 : Int) (v8_8 : (BitVec 64)) (v9_7 : Int)
noncomputable def step_ref03_Of (s0 : (List UInt8)) : C_ref03_Of → Option (C_ref03_Of ⊕ (List UInt8))
  | .S =>
    ((g_ref03_Fill s0).bind fun (x_1 : (List UInt8)) =>
    some (.inl (.L1 ([(1779033703 : BitVec 64), (3144134277 : BitVec 64), (1013904242 : BitVec 64), (2773480762 : BitVec 64), (1359893119 : BitVec 64), (2600822924 : BitVec 64), (528734635 : BitVec 64), (1541459225 : BitVec 64)] : List (BitVec 64)) x_1 (0))))
  | .L1 v3 v4_2 v5 =>
    (bif (decide (v5 < (v4_2.length : Int))) then
    gO (inI (v5 + (64 : Int))) (
    gO (0 ≤ v5 ∧ v5 ≤ (v5 + (64 : Int)) ∧ (v5 + (64 : Int)) ≤ (v4_2.length : Int)) (
    ((g_ref03_Block v3 (sub v4_2 v5 (v5 + (64 : Int)))).bind fun (x_7 : (List (BitVec 64))) =>
    gO (inI (v5 + (64 : Int))) (
    some (.inl (.L1 x_7 v4_2 (v5 + (64 : Int))))))))
    else
    some (.inl (.L2 v3 ([] : List UInt8) (0))))
  | .L2 v3_7 v6 v7 =>
    (bif (decide (v7 < (32 : Int))) then
    gO ((4 : Int) ≠ 0 ∧ inI (v7.tdiv (4 : Int))) (
    gO (0 ≤ (v7.tdiv (4 : Int)) ∧ (v7.tdiv (4 : Int)) < (v3_7.length : Int)) (
    some (.inl (.L3 v3_7 v6 v7 (idx v3_7 (v7.tdiv (4 : Int))) (v7.tmod (4 : Int))))))
    else
    some (.inr v6))
  | .L3 v3_13 v6_7 v7_7 v8_8 v9_7 =>
    (bif (decide (v9_7 < (3 : Int))) then
    gO (inI (v9_7 + (1 : Int))) (
    some (.inl (.L3 v3_13 v6_7 v7_7 (v8_8 / (256 : BitVec 64)) (v9_7 + (1 : Int)))))
    else
    gO (v6_7.length + ([(u8I ((v8_8 % (256 : BitVec 64)).toNat : Int))] : List UInt8).length ≤ 9223372036854775807) (
    gO (inI (v7_7 + (1 : Int))) (
    some (.inl (.L2 v3_13 (v6_7 ++ ([(u8I ((v8_8 % (256 : BitVec 64)).toNat : Int))] : List UInt8)) (v7_7 + (1 : Int)))))))
noncomputable def g_ref03_Of (s0 : (List UInt8)) : Option (List UInt8) := theC (step_ref03_Of s0) .S
theorem sim_ref03_Of (s0 : (List UInt8)) (r : (List UInt8)) (h : g_ref03_Of s0 = some r) : Fun Try.prog 38 [.val (sV s0)] (.val (sV r)) := by
  refine Fun.of_bodyQ Try.func38 rfl (by simp [Try.ntmps38]) ?_
  rw [Try.ntmps38, TT.res_38]
  refine QW.view (s' := ⟨tab [(0, pS s0)], tabH [], 0, []⟩) (View.init (by rfl)) zL ?_
  replace h := theC_get h
  obtain ⟨_, h⟩ := h
  obtain ⟨k_0, rfl, h9⟩ := run_succ h; replace h := h9; clear h9; rw [step_ref03_Of] at h
  refine sR ?_
  refine xz 2 (pS ([] : List UInt8)) ?_
  refine sR ?_
  refine xs 10 rfl (sf_row (en := e64) (l := ([(1779033703 : BitVec 64), (3144134277 : BitVec 64), (1013904242 : BitVec 64), (2773480762 : BitVec 64), (1359893119 : BitVec 64), (2600822924 : BitVec 64), (528734635 : BitVec 64), (1541459225 : BitVec 64)] : List (BitVec 64))) rfl TT.rowA_67 lay_64 rfl rfl (by decide) (by simp [solids, partsP, evP, ofVal, PV.solid, putS_at, tab, unS, unT, unC, asCond, Value.oneCell']) ?_)
  refine xz 3 (.full (([(1779033703 : BitVec 64), (3144134277 : BitVec 64), (1013904242 : BitVec 64), (2773480762 : BitVec 64), (1359893119 : BitVec 64), (2600822924 : BitVec 64), (528734635 : BitVec 64), (1541459225 : BitVec 64)] : List (BitVec 64)).map e64)) ?_
  refine sR ?_
  refine xm 11 (pS s0) ?_
  obtain ⟨x_1, hx_2, h⟩ := bG h
  refine xs 12 rfl (sf_call rfl rfl TT.enters_41 rfl (sim_ref03_Fill s0 _ hx_2) ?_)
  refine xz 4 (pS x_1) ?_
  refine QW.seq ?_
  refine sR ?_
  refine xz 5 (pI (0)) ?_
  refine QW.block ?_
  refine QW.loop (fun k σ => ∃ v3 : (List (BitVec 64)), ∃ v4_2 : (List UInt8), ∃ v5 : Int, k ≤ k_0 ∧ run (step_ref03_Of s0) k (.L1 v3 v4_2 v5) = some r ∧ σ = ⟨tab [(3, .d (.slice (v3.map e64))), (4, pS v4_2), (5, pI v5)], tabH [], 0, []⟩) k_0 zL ⟨⟨tab [(3, .d (.slice (([(1779033703 : BitVec 64), (3144134277 : BitVec 64), (1013904242 : BitVec 64), (2773480762 : BitVec 64), (1359893119 : BitVec 64), (2600822924 : BitVec 64), (528734635 : BitVec 64), (1541459225 : BitVec 64)] : List (BitVec 64)).map e64))), (4, pS x_1), (5, pI (0))], tabH [], 0, []⟩, View.mk 0 [] _ _ _ rfl rfl (by decide) (And.intro (Imp.toD rfl) (iC (iC trivial))) trivial rfl zL rfl, ([(1779033703 : BitVec 64), (3144134277 : BitVec 64), (1013904242 : BitVec 64), (2773480762 : BitVec 64), (1359893119 : BitVec 64), (2600822924 : BitVec 64), (528734635 : BitVec 64), (1541459225 : BitVec 64)] : List (BitVec 64)), x_1, 0, Nat.le_refl _, jG h, rfl⟩ ?_
  rintro k_3s _ ⟨v3, v4_2, v5, k_3h, h, rfl⟩
  obtain ⟨k_3, rfl, h9⟩ := run_succ h; replace h := h9; clear h9; rw [step_ref03_Of] at h
  refine QW.seq ?_
  refine sR ?_
  refine xm 13 (pI v5) ?_
  refine xm 14 (pS v4_2) ?_
  refine xs 15 rfl (sf_lenS (l := v4_2) rfl TT.under_9 rfl ?_)
  refine xs 16 rfl (sf_lss (a := v5) (b := (v4_2.length : Int)) rfl rfl rfl ?_)
  refine XK.nz ?_
  refine QW.cond (t := (decide (v5 < (v4_2.length : Int)))) rfl zL (fun hb_4 => ?_) (fun hb_4 => ?_)
  · replace h := bGT h hb_4
    refine QW.skip zL (nrm ?_)
    refine QW.seq ?_
    refine QW.block ?_
    refine rG ?_
    refine xm 19 (.d (.slice (v3.map e64))) ?_
    refine xm 20 (pS v4_2) ?_
    refine xm 21 (pI v5) ?_
    refine xm 22 (pI v5) ?_
    obtain ⟨c_5, h⟩ := gG h
    refine xs 23 rfl (sf_add (a := v5) (b := (64 : Int)) rfl rfl rfl c_5 ?_)
    obtain ⟨c_6, h⟩ := gG h
    refine xs 24 rfl (sf_subS (l := v4_2) (a := v5) (b := (v5 + (64 : Int))) rfl TT.under_9 rfl rfl rfl c_6 ?_)
    obtain ⟨x_7, hx_8, h⟩ := bG h
    refine xs 25 rfl (sf_call rfl rfl TT.enters_42 rfl (sim_ref03_Block v3 (sub v4_2 v5 (v5 + (64 : Int))) _ hx_8) ?_)
    refine xa 3 (.d (.slice (x_7.map e64))) ?_
    refine XK.nil (blN (nrm ?_))
    refine rG ?_
    refine xm 17 (pI v5) ?_
    obtain ⟨c_9, h⟩ := gG h
    refine xs 18 rfl (sf_add (a := v5) (b := (64 : Int)) rfl rfl rfl c_9 ?_)
    refine xz 5 (pI (v5 + (64 : Int))) ?_
    exact ⟨k_3, by omega, ⟨tab [(3, .d (.slice (x_7.map e64))), (4, pS v4_2), (5, pI (v5 + (64 : Int)))], tabH [], 0, []⟩, View.mk 0 [] _ _ _ rfl rfl (by decide) (iC (iC (iC trivial))) trivial rfl zL rfl, x_7, v4_2, (v5 + (64 : Int)), by omega, jG h, rfl⟩
  · replace h := bGF h hb_4
    refine QW.exit zL (thX (thX (exE (nrm ?_))))
    refine sR ?_
    refine xz 6 (pS ([] : List UInt8)) ?_
    refine QW.seq ?_
    refine sR ?_
    refine xz 7 (pI (0)) ?_
    refine QW.block ?_
    refine QW.loop (fun k σ => ∃ v3_7 : (List (BitVec 64)), ∃ v6 : (List UInt8), ∃ v7 : Int, k ≤ k_3 ∧ run (step_ref03_Of s0) k (.L2 v3_7 v6 v7) = some r ∧ σ = ⟨tab [(3, .d (.slice (v3_7.map e64))), (6, pS v6), (7, pI v7)], tabH [], 0, []⟩) k_3 zL ⟨⟨tab [(3, .d (.slice (v3.map e64))), (6, pS ([] : List UInt8)), (7, pI (0))], tabH [], 0, []⟩, View.mk 0 [] _ _ _ rfl rfl (by decide) (iC (iC (iC trivial))) trivial rfl zL rfl, v3, ([] : List UInt8), 0, Nat.le_refl _, jG h, rfl⟩ ?_
    rintro k_10s _ ⟨v3_7, v6, v7, k_10h, h, rfl⟩
    obtain ⟨k_10, rfl, h9⟩ := run_succ h; replace h := h9; clear h9; rw [step_ref03_Of] at h
    refine QW.seq ?_
    refine sR ?_
    refine xm 26 (pI v7) ?_
    refine xs 27 rfl (sf_lss (a := v7) (b := (32 : Int)) rfl rfl rfl ?_)
    refine XK.nz ?_
    refine QW.cond (t := (decide (v7 < (32 : Int)))) rfl zL (fun hb_11 => ?_) (fun hb_11 => ?_)
    · replace h := bGT h hb_11
      refine QW.skip zL (nrm ?_)
      refine QW.seq ?_
      refine QW.block ?_
      refine sR ?_
      refine xm 30 (.d (.slice (v3_7.map e64))) ?_
      refine xm 31 (pI v7) ?_
      obtain ⟨c_12, h⟩ := gG h
      refine xs 32 rfl (sf_quo (a := v7) (b := (4 : Int)) rfl rfl rfl c_12 ?_)
      obtain ⟨c_13, h⟩ := gG h
      refine xs 33 rfl (sf_idxA (l := v3_7) (i := (v7.tdiv (4 : Int))) rfl TT.slcA_67 lay_64 rfl rfl c_13 ?_)
      refine xs 34 rfl (sf_ldC (d := .val (.int .u64 ((idx v3_7 (v7.tdiv (4 : Int))).toNat : Int))) rfl TT.tyA_66 rfl (LdC.one) ?_)
      refine xz 8 (.d (.val (.int .u64 ((idx v3_7 (v7.tdiv (4 : Int))).toNat : Int)))) ?_
      refine QW.seq ?_
      refine sR ?_
      refine xm 35 (pI v7) ?_
      refine xs 36 rfl (sf_rem (a := v7) (b := (4 : Int)) rfl rfl rfl (by decide) ?_)
      refine xz 9 (pI (v7.tmod (4 : Int))) ?_
      refine QW.block ?_
      refine QW.loop (fun k σ => ∃ v3_13 : (List (BitVec 64)), ∃ v6_7 : (List UInt8), ∃ v7_7 : Int, ∃ v8_8 : (BitVec 64), ∃ v9_7 : Int, k ≤ k_10 ∧ run (step_ref03_Of s0) k (.L3 v3_13 v6_7 v7_7 v8_8 v9_7) = some r ∧ σ = ⟨tab [(3, .d (.slice (v3_13.map e64))), (6, pS v6_7), (7, pI v7_7), (8, .d (.val (.int .u64 (v8_8.toNat : Int)))), (9, pI v9_7)], tabH [], 0, []⟩) k_10 zL ⟨⟨tab [(3, .d (.slice (v3_7.map e64))), (6, pS v6), (7, pI v7), (8, .d (.val (.int .u64 ((idx v3_7 (v7.tdiv (4 : Int))).toNat : Int)))), (9, pI (v7.tmod (4 : Int)))], tabH [], 0, []⟩, View.mk 0 [] _ _ _ rfl rfl (by decide) (iC (iC (iC (iC (iC trivial))))) trivial rfl zL rfl, v3_7, v6, v7, (idx v3_7 (v7.tdiv (4 : Int))), (v7.tmod (4 : Int)), Nat.le_refl _, jG h, rfl⟩ ?_
      rintro k_14s _ ⟨v3_13, v6_7, v7_7, v8_8, v9_7, k_14h, h, rfl⟩
      obtain ⟨k_14, rfl, h9⟩ := run_succ h; replace h := h9; clear h9; rw [step_ref03_Of] at h
      refine QW.seq ?_
      refine sR ?_
      refine xm 37 (pI v9_7) ?_
      refine xs 38 rfl (sf_lss (a := v9_7) (b := (3 : Int)) rfl rfl rfl ?_)
      refine XK.nz ?_
      refine QW.cond (t := (decide (v9_7 < (3 : Int)))) rfl zL (fun hb_15 => ?_) (fun hb_15 => ?_)
      · replace h := bGT h hb_15
        refine QW.skip zL (nrm ?_)
        refine QW.seq ?_
        refine QW.block ?_
        refine rG ?_
        refine xm 41 (.d (.val (.int .u64 (v8_8.toNat : Int)))) ?_
        refine xs 42 rfl (sf_wquo' (a := v8_8) (b := (256 : BitVec 64)) rfl rfl rfl (by decide) ?_)
        refine xa 8 (.d (.val (.int .u64 ((v8_8 / (256 : BitVec 64)).toNat : Int)))) ?_
        refine XK.nil (blN (nrm ?_))
        refine rG ?_
        refine xm 39 (pI v9_7) ?_
        obtain ⟨c_16, h⟩ := gG h
        refine xs 40 rfl (sf_add (a := v9_7) (b := (1 : Int)) rfl rfl rfl c_16 ?_)
        refine xz 9 (pI (v9_7 + (1 : Int))) ?_
        exact ⟨k_14, by omega, ⟨tab [(3, .d (.slice (v3_13.map e64))), (6, pS v6_7), (7, pI v7_7), (8, .d (.val (.int .u64 ((v8_8 / (256 : BitVec 64)).toNat : Int)))), (9, pI (v9_7 + (1 : Int)))], tabH [], 0, []⟩, View.mk 0 [] _ _ _ rfl rfl (by decide) (iC (iC (iC (iC (iC trivial))))) trivial rfl zL rfl, v3_13, v6_7, v7_7, (v8_8 / (256 : BitVec 64)), (v9_7 + (1 : Int)), by omega, jG h, rfl⟩
      · replace h := bGF h hb_15
        refine QW.exit zL (thX (thX (exE (nrm ?_))))
        refine rG ?_
        refine xm 43 (pS v6_7) ?_
        refine xm 44 (.d (.val (.int .u64 (v8_8.toNat : Int)))) ?_
        refine xs 45 rfl (sf_wrem' (a := v8_8) (b := (256 : BitVec 64)) rfl rfl rfl (by decide) ?_)
        refine xs 46 rfl (sf_toU8 (n := ((v8_8 % (256 : BitVec 64)).toNat : Int)) rfl TT.under_66 TT.under_5 rfl ?_)
        refine xs 47 rfl (sf_row (en := byteD) (l := ([(u8I ((v8_8 % (256 : BitVec 64)).toNat : Int))] : List UInt8)) rfl TT.rowA_32 lay_byte rfl rfl (by decide) (by simp [solids, partsP, evP, ofVal, PV.solid, putS_at, tab, unS, unT, unC, asCond, Value.oneCell']) ?_)
        refine xs 48 rfl (sf_b2s (l := ([(u8I ((v8_8 % (256 : BitVec 64)).toNat : Int))] : List UInt8)) rfl TT.under_32 TT.under_5 TT.under_9 rfl ?_)
        obtain ⟨c_17, h⟩ := gG h
        refine xs 49 rfl (sf_cat (a := v6_7) (b := ([(u8I ((v8_8 % (256 : BitVec 64)).toNat : Int))] : List UInt8)) rfl rfl rfl c_17 ?_)
        refine xa 6 (pS (v6_7 ++ ([(u8I ((v8_8 % (256 : BitVec 64)).toNat : Int))] : List UInt8))) ?_
        refine XK.nil (blN (nrm ?_))
        refine rG ?_
        refine xm 28 (pI v7_7) ?_
        obtain ⟨c_18, h⟩ := gG h
        refine xs 29 rfl (sf_add (a := v7_7) (b := (1 : Int)) rfl rfl rfl c_18 ?_)
        refine xz 7 (pI (v7_7 + (1 : Int))) ?_
        exact ⟨k_14, by omega, ⟨tab [(3, .d (.slice (v3_13.map e64))), (6, pS (v6_7 ++ ([(u8I ((v8_8 % (256 : BitVec 64)).toNat : Int))] : List UInt8))), (7, pI (v7_7 + (1 : Int)))], tabH [], 0, []⟩, View.mk 0 [] _ _ _ rfl rfl (by decide) (iC (iC (iC trivial))) trivial rfl zL rfl, v3_13, (v6_7 ++ ([(u8I ((v8_8 % (256 : BitVec 64)).toNat : Int))] : List UInt8)), (v7_7 + (1 : Int)), by omega, jG h, rfl⟩
    · replace h := bGF h hb_11
      refine QW.exit zL (thX (thX (exE (nrm ?_))))
      refine sR ?_
      refine xm 50 (pS v6) ?_
      refine xz 2 (pS v6) ?_
      refine QW.ret zL ?_
      obtain rfl := sG h
      exact Ends.one (.inr rfl) rfl (ResIs.tmp rfl) rfl rfl
noncomputable def g_ref07_Of (enc0 : (List UInt8)) : Option (List UInt8) :=
    (bif (decide ((32 : Int) ≤ (enc0.length : Int))) then
    ((g_ref03_Of enc0).bind fun (x_2 : (List UInt8)) =>
    some x_2)
    else
    some enc0)
theorem sim_ref07_Of (enc0 : (List UInt8)) (r : (List UInt8)) (h : g_ref07_Of enc0 = some r) : Fun Try.prog 30 [.val (sV enc0)] (.val (sV r)) := by
  refine Fun.of_bodyQ Try.func30 rfl (by simp [Try.ntmps30]) ?_
  rw [Try.ntmps30, TT.res_30]
  refine QW.view (s' := ⟨tab [(0, pS enc0)], tabH [], 0, []⟩) (View.init (by rfl)) zL ?_
  unfold g_ref07_Of at h
  refine sR ?_
  refine xz 2 (pS ([] : List UInt8)) ?_
  refine QW.seq ?_
  refine sR ?_
  refine xm 3 (pS enc0) ?_
  refine xs 4 rfl (sf_lenS (l := enc0) rfl TT.under_9 rfl ?_)
  refine xs 5 rfl (sf_geq (a := (enc0.length : Int)) (b := (32 : Int)) rfl rfl rfl ?_)
  refine XK.nz ?_
  refine QW.cond (t := (decide ((32 : Int) ≤ (enc0.length : Int)))) rfl zL (fun hb_1 => ?_) (fun hb_1 => ?_)
  · replace h := bT h hb_1
    refine sR ?_
    refine xm 6 (pS enc0) ?_
    obtain ⟨x_2, hx_3, h⟩ := bO h
    refine xs 7 rfl (sf_call rfl rfl TT.enters_38 rfl (sim_ref03_Of enc0 _ hx_3) ?_)
    refine xz 2 (pS x_2) ?_
    refine QW.ret zL (thR ?_)
    obtain rfl := sO h
    exact Ends.one (.inr rfl) rfl (ResIs.tmp rfl) rfl rfl
  · replace h := bF h hb_1
    refine QW.skip zL (nrm ?_)
    refine sR ?_
    refine xm 8 (pS enc0) ?_
    refine xz 2 (pS enc0) ?_
    refine QW.ret zL ?_
    obtain rfl := sO h
    exact Ends.one (.inr rfl) rfl (ResIs.tmp rfl) rfl rfl
end Go.Proofs.Ytfnlcnnoedmfiaa.K
