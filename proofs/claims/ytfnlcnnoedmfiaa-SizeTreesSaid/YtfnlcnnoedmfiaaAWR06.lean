/- The references of layers 05 and 06: what they reckon. -/
import Derived.Test.YtfnlcnnoedmfiaaAWR03
import Derived.KernelRfl
namespace Go.Proofs.Ytfnlcnnoedmfiaa.K
open Go Go.RowKit
set_option linter.unusedSimpArgs false
set_option linter.unusedVariables false
set_option maxRecDepth 20000
set_option maxHeartbeats 4000000
namespace TT
theorem arrA_44 : arrA Try.prog 44 = some (16, 1, false) := by kernel_rfl
theorem bldA_64 : bldA Try.prog 64 = some ([Value.bool false, Value.string ⟨#[]⟩, Value.slice none 0 0], .inl [(0, 1), (1, 1), (2, 1)]) := by kernel_rfl
theorem enters_32 : entersB Try.prog 32 = true := by kernel_rfl
theorem enters_33 : entersB Try.prog 33 = true := by kernel_rfl
theorem enters_34 : entersB Try.prog 34 = true := by kernel_rfl
theorem enters_35 : entersB Try.prog 35 = true := by kernel_rfl
theorem enters_39 : entersB Try.prog 39 = true := by kernel_rfl
theorem enters_40 : entersB Try.prog 40 = true := by kernel_rfl
theorem fldA_46_0 : fldA Try.prog 46 0 = some (0, 1, false) := by kernel_rfl
theorem fldA_46_1 : fldA Try.prog 46 1 = some (1, 1, false) := by kernel_rfl
theorem fldA_46_2 : fldA Try.prog 46 2 = some (2, 1, false) := by kernel_rfl
theorem fldA_46_3 : fldA Try.prog 46 3 = some (3, 16, true) := by kernel_rfl
theorem fldA_64_0 : fldA Try.prog 64 0 = some (0, 1, false) := by kernel_rfl
theorem fldA_64_1 : fldA Try.prog 64 1 = some (1, 1, false) := by kernel_rfl
theorem fldA_64_2 : fldA Try.prog 64 2 = some (2, 1, false) := by kernel_rfl
theorem res_21 : Try.f21.results.toList = [.tmp 2] := rfl
theorem res_32 : Try.f32.results.toList = [.tmp 2] := rfl
theorem res_34 : Try.f34.results.toList = [.tmp 2] := rfl
theorem res_35 : Try.f35.results.toList = [.tmp 4] := rfl
theorem res_39 : Try.f39.results.toList = [.tmp 2] := rfl
theorem res_40 : Try.f40.results.toList = [.tmp 2] := rfl
theorem slcA_44 : slcA Try.prog 44 = none := by kernel_rfl
theorem slcA_62 : slcA Try.prog 62 = some (3, 48, true) := by kernel_rfl
theorem tyA_3 : tyA Try.prog 3 = some (false, 1) := by kernel_rfl
theorem tyA_32 : tyA Try.prog 32 = some (false, 1) := by kernel_rfl
theorem tyA_4 : tyA Try.prog 4 = some (false, 1) := by kernel_rfl
theorem tyA_62 : tyA Try.prog 62 = some (false, 1) := by kernel_rfl
theorem tyA_64 : tyA Try.prog 64 = some (true, 3) := by kernel_rfl
theorem tyA_9 : tyA Try.prog 9 = some (false, 1) := by kernel_rfl
theorem under_62 : Program.underlying Try.prog 62 = some (.slice 64) := by kernel_rfl
end TT
noncomputable def gs_ref05_big (self : Int → Option (List UInt8)) (n0 : Int) : Option (List UInt8) :=
    (bif (decide (n0 = (0 : Int))) then
    some ([] : List UInt8)
    else
    gO ((256 : Int) ≠ 0 ∧ inI (n0.tdiv (256 : Int))) (
    ((self (n0.tdiv (256 : Int))).bind fun (x_3 : (List UInt8)) =>
    gO (x_3.length + ([(u8I (n0.tmod (256 : Int)))] : List UInt8).length ≤ 9223372036854775807) (
    some (x_3 ++ ([(u8I (n0.tmod (256 : Int)))] : List UInt8))))))
theorem sims_ref05_big (self : Int → Option (List UInt8)) (hself : ∀ (y0 : Int) (rr : (List UInt8)), self y0 = some rr → Fun Try.prog 40 [.val (.int .i64 y0)] (.val (sV rr))) (n0 : Int) (r : (List UInt8)) (h : gs_ref05_big self n0 = some r) : Fun Try.prog 40 [.val (.int .i64 n0)] (.val (sV r)) := by
  refine Fun.of_bodyQ Try.func40 rfl (by simp [Try.ntmps40]) ?_
  rw [Try.ntmps40, TT.res_40]
  refine QW.view (s' := ⟨tab [(0, pI n0)], tabH [], 0, []⟩) (View.init (by rfl)) zL ?_
  unfold gs_ref05_big at h
  refine sR ?_
  refine xz 2 (pS ([] : List UInt8)) ?_
  refine QW.seq ?_
  refine sR ?_
  refine xm 3 (pI n0) ?_
  refine xs 4 rfl (sf_eq (a := n0) (b := (0 : Int)) rfl rfl rfl ?_)
  refine XK.nz ?_
  refine QW.cond (t := (decide (n0 = (0 : Int)))) rfl zL (fun hb_1 => ?_) (fun hb_1 => ?_)
  · replace h := bT h hb_1
    refine sR ?_
    refine xz 2 (pS ([] : List UInt8)) ?_
    refine QW.ret zL (thR ?_)
    obtain rfl := sO h
    exact Ends.one (.inr rfl) rfl (ResIs.tmp rfl) rfl rfl
  · replace h := bF h hb_1
    refine QW.skip zL (nrm ?_)
    refine QW.seq ?_
    refine QW.region zL (PW.regQ (id := 3) mixedX (M := _) rfl (by kernel_rfl) ?_)
    refine RQ.st (some 5) rfl rfl (sf_move (v := pI n0) rfl rfl ⟨⟨rfl, rfl⟩, ?_⟩)
    obtain ⟨c_2, h⟩ := gO_get h
    refine RQ.st (some 6) rfl rfl (sf_quo (a := n0) (b := (256 : Int)) rfl rfl rfl c_2 ⟨⟨rfl, rfl⟩, ?_⟩)
    obtain ⟨x_3, hx_4, h⟩ := bO h
    refine RQ.st (some 7) rfl rfl (sf_call rfl rfl TT.enters_40 rfl (hself (n0.tdiv (256 : Int)) _ hx_4) ⟨⟨rfl, rfl⟩, ?_⟩)
    refine RQ.st (some 8) rfl rfl (sf_move (v := pI n0) rfl rfl ⟨⟨rfl, rfl⟩, ?_⟩)
    refine RQ.st (some 9) rfl rfl (sf_rem (a := n0) (b := (256 : Int)) rfl rfl rfl (by decide) ⟨⟨rfl, rfl⟩, ?_⟩)
    refine RQ.st (some 10) rfl rfl (sf_toU8 (n := (n0.tmod (256 : Int))) rfl TT.under_3 TT.under_5 rfl ⟨⟨rfl, rfl⟩, ?_⟩)
    refine RQ.st (some 11) rfl rfl (sf_row (en := byteD) (l := ([(u8I (n0.tmod (256 : Int)))] : List UInt8)) rfl TT.rowA_32 lay_byte rfl rfl (by decide) (by simp [solids, partsP, evP, ofVal, PV.solid, putS_at, tab, unS, unT, unC, asCond, Value.oneCell']) ⟨⟨rfl, rfl⟩, ?_⟩)
    refine RQ.st (some 12) rfl rfl (sf_b2s (l := ([(u8I (n0.tmod (256 : Int)))] : List UInt8)) rfl TT.under_32 TT.under_5 TT.under_9 rfl ⟨⟨rfl, rfl⟩, ?_⟩)
    obtain ⟨c_5, h⟩ := gO_get h
    refine RQ.st (some 13) rfl rfl (sf_cat (a := x_3) (b := ([(u8I (n0.tmod (256 : Int)))] : List UInt8)) rfl rfl rfl c_5 ⟨⟨rfl, rfl⟩, ?_⟩)
    refine RQ.st (some 2) rfl rfl (sf_assign (v := pS (x_3 ++ ([(u8I (n0.tmod (256 : Int)))] : List UInt8))) rfl rfl ⟨⟨rfl, rfl⟩, ?_⟩)
    refine RQ.nil (nrm ?_)
    refine QW.ret zL ?_
    obtain rfl := sO h
    exact Ends.one (.inr rfl) rfl (ResIs.tmp rfl) rfl rfl
noncomputable def rec_ref05_big : Nat → Int → Option (List UInt8)
  | 0 => fun _ => none
  | n + 1 => fun y0 => gs_ref05_big (rec_ref05_big n) y0
theorem simr_ref05_big : ∀ (n : Nat) (y0 : Int) (rr : (List UInt8)), rec_ref05_big n y0 = some rr → Fun Try.prog 40 [.val (.int .i64 y0)] (.val (sV rr))
  | 0, _, _, h => by cases h
  | n + 1, y0, rr, h => sims_ref05_big (rec_ref05_big n) (simr_ref05_big n) y0 rr h
noncomputable def g_ref05_big (y0 : Int) : Option (List UInt8) := theR (fun n => rec_ref05_big n y0)
theorem sim_ref05_big (y0 : Int) (rr : (List UInt8)) (h : g_ref05_big y0 = some rr) : Fun Try.prog 40 [.val (.int .i64 y0)] (.val (sV rr)) := by
  obtain ⟨n, hn⟩ := theR_get h
  exact simr_ref05_big n y0 rr hn
noncomputable def g_ref05_Head (n0 : Int) (list1 : Bool) : Option (List UInt8) :=
    (((bif list1 then
    some (192)
    else
    some (128)) : Option Int).bind fun (v5 : Int) =>
    (bif (decide (n0 < (56 : Int))) then
    gO (inI (v5 + n0)) (
    some ([(u8I (v5 + n0))] : List UInt8))
    else
    ((g_ref05_big n0).bind fun (x_4 : (List UInt8)) =>
    gO (inI (v5 + (55 : Int))) (
    gO (inI ((v5 + (55 : Int)) + (x_4.length : Int))) (
    gO (([(u8I ((v5 + (55 : Int)) + (x_4.length : Int)))] : List UInt8).length + x_4.length ≤ 9223372036854775807) (
    some (([(u8I ((v5 + (55 : Int)) + (x_4.length : Int)))] : List UInt8) ++ x_4)))))))
theorem sim_ref05_Head (n0 : Int) (list1 : Bool) (r : (List UInt8)) (h : g_ref05_Head n0 list1 = some r) : Fun Try.prog 35 [.val (.int .i64 n0), .val (.bool list1)] (.val (sV r)) := by
  refine Fun.of_bodyQ Try.func35 rfl (by simp [Try.ntmps35]) ?_
  rw [Try.ntmps35, TT.res_35]
  refine QW.view (s' := ⟨tab [(0, pI n0), (1, pB list1)], tabH [], 0, []⟩) (View.init (by rfl)) zL ?_
  unfold g_ref05_Head at h
  refine sR ?_
  refine xz 4 (pS ([] : List UInt8)) ?_
  refine sR ?_
  refine xz 5 (pI (128)) ?_
  obtain ⟨v5, hq, h⟩ := bO h
  refine QW.seqI (fun s' => s' = ⟨tab [(0, pI n0), (5, pI v5)], tabH [], 0, []⟩) ?_ ?_
  · replace h := hq; clear hq
    refine sR ?_
    refine xm 7 (pB list1) ?_
    refine XK.nz ?_
    refine QW.cond (t := list1) rfl zL (fun hb_1 => ?_) (fun hb_1 => ?_)
    · replace h := bT h hb_1
      refine rG ?_
      refine xz 5 (pI (192)) ?_
      obtain rfl := sO h
      exact ⟨⟨tab [(0, pI n0), (5, pI (192))], tabH [], 0, []⟩, View.mk 0 [] _ _ _ rfl rfl (by decide) (iC (iC trivial)) trivial rfl zL rfl, rfl⟩
    · replace h := bF h hb_1
      refine QW.skip zL (nrm ?_)
      obtain rfl := sO h
      exact ⟨⟨tab [(0, pI n0), (5, pI (128))], tabH [], 0, []⟩, View.mk 0 [] _ _ _ rfl rfl (by decide) (iC (iC trivial)) trivial rfl zL rfl, rfl⟩
  · rintro _ rfl
    refine QW.seq ?_
    refine sR ?_
    refine xm 8 (pI n0) ?_
    refine xs 9 rfl (sf_lss (a := n0) (b := (56 : Int)) rfl rfl rfl ?_)
    refine XK.nz ?_
    refine QW.cond (t := (decide (n0 < (56 : Int)))) rfl zL (fun hb_2 => ?_) (fun hb_2 => ?_)
    · replace h := bT h hb_2
      refine sR ?_
      refine xm 10 (pI v5) ?_
      refine xm 11 (pI n0) ?_
      obtain ⟨c_3, h⟩ := gO_get h
      refine xs 12 rfl (sf_add (a := v5) (b := n0) rfl rfl rfl c_3 ?_)
      refine xs 13 rfl (sf_toU8 (n := (v5 + n0)) rfl TT.under_3 TT.under_5 rfl ?_)
      refine xs 14 rfl (sf_row (en := byteD) (l := ([(u8I (v5 + n0))] : List UInt8)) rfl TT.rowA_32 lay_byte rfl rfl (by decide) (by simp [solids, partsP, evP, ofVal, PV.solid, putS_at, tab, unS, unT, unC, asCond, Value.oneCell']) ?_)
      refine xs 15 rfl (sf_b2s (l := ([(u8I (v5 + n0))] : List UInt8)) rfl TT.under_32 TT.under_5 TT.under_9 rfl ?_)
      refine xz 4 (pS ([(u8I (v5 + n0))] : List UInt8)) ?_
      refine QW.ret zL (thR ?_)
      obtain rfl := sO h
      exact Ends.one (.inr rfl) rfl (ResIs.tmp rfl) rfl rfl
    · replace h := bF h hb_2
      refine QW.skip zL (nrm ?_)
      refine sR ?_
      refine xm 16 (pI n0) ?_
      obtain ⟨x_4, hx_5, h⟩ := bO h
      refine xs 17 rfl (sf_call rfl rfl TT.enters_40 rfl (sim_ref05_big n0 _ hx_5) ?_)
      refine xz 6 (pS x_4) ?_
      refine sR ?_
      refine xm 18 (pI v5) ?_
      obtain ⟨c_6, h⟩ := gO_get h
      refine xs 19 rfl (sf_add (a := v5) (b := (55 : Int)) rfl rfl rfl c_6 ?_)
      refine xm 20 (pS x_4) ?_
      refine xs 21 rfl (sf_lenS (l := x_4) rfl TT.under_9 rfl ?_)
      obtain ⟨c_7, h⟩ := gO_get h
      refine xs 22 rfl (sf_add (a := (v5 + (55 : Int))) (b := (x_4.length : Int)) rfl rfl rfl c_7 ?_)
      refine xs 23 rfl (sf_toU8 (n := ((v5 + (55 : Int)) + (x_4.length : Int))) rfl TT.under_3 TT.under_5 rfl ?_)
      refine xs 24 rfl (sf_row (en := byteD) (l := ([(u8I ((v5 + (55 : Int)) + (x_4.length : Int)))] : List UInt8)) rfl TT.rowA_32 lay_byte rfl rfl (by decide) (by simp [solids, partsP, evP, ofVal, PV.solid, putS_at, tab, unS, unT, unC, asCond, Value.oneCell']) ?_)
      refine xs 25 rfl (sf_b2s (l := ([(u8I ((v5 + (55 : Int)) + (x_4.length : Int)))] : List UInt8)) rfl TT.under_32 TT.under_5 TT.under_9 rfl ?_)
      refine xm 26 (pS x_4) ?_
      obtain ⟨c_8, h⟩ := gO_get h
      refine xs 27 rfl (sf_cat (a := ([(u8I ((v5 + (55 : Int)) + (x_4.length : Int)))] : List UInt8)) (b := x_4) rfl rfl rfl c_8 ?_)
      refine xz 4 (pS (([(u8I ((v5 + (55 : Int)) + (x_4.length : Int)))] : List UInt8) ++ x_4)) ?_
      refine QW.ret zL ?_
      obtain rfl := sO h
      exact Ends.one (.inr rfl) rfl (ResIs.tmp rfl) rfl rfl
inductive C_ref05_Put where
  | S
  | L1 (v3 : (List UInt8)) (v4 : Int)
noncomputable def step_ref05_Put (self : Item → Option (List UInt8)) (x0 : Item) : C_ref05_Put → Option (C_ref05_Put ⊕ (List UInt8))
  | .S =>
    (bif (!(x0).fList) then
    gO ((decide (((x0.fS).length : Int) = (1 : Int))) = true → 0 ≤ (0 : Int) ∧ (0 : Int) < ((x0.fS).length : Int)) (
    (bif ((decide (((x0.fS).length : Int) = (1 : Int))) && (decide (((idx (x0.fS) (0 : Int)).toNat : Int) ≤ (127 : Int)))) then
    some (.inr (x0.fS))
    else
    ((g_ref05_Head ((x0.fS).length : Int) false).bind fun (x_4 : (List UInt8)) =>
    gO (x_4.length + (x0.fS).length ≤ 9223372036854775807) (
    some (.inr (x_4 ++ x0.fS))))))
    else
    some (.inl (.L1 ([] : List UInt8) (0))))
  | .L1 v3 v4 =>
    (bif (decide (v4 < ((x0.fL).length : Int))) then
    gO (0 ≤ v4 ∧ v4 < ((x0.fL).length : Int)) (
    ((self (idx (x0.fL) v4)).bind fun (x_10 : (List UInt8)) =>
    gO (v3.length + x_10.length ≤ 9223372036854775807) (
    gO (inI (v4 + (1 : Int))) (
    some (.inl (.L1 (v3 ++ x_10) (v4 + (1 : Int))))))))
    else
    ((g_ref05_Head (v3.length : Int) true).bind fun (x_14 : (List UInt8)) =>
    gO (x_14.length + v3.length ≤ 9223372036854775807) (
    some (.inr (x_14 ++ v3)))))
noncomputable def gs_ref05_Put (self : Item → Option (List UInt8)) (x0 : Item) : Option (List UInt8) := theC (step_ref05_Put self x0) .S
theorem sims_ref05_Put (self : Item → Option (List UInt8)) (hself : ∀ (y0 : Item) (rr : (List UInt8)), self y0 = some rr → Fun Try.prog 39 [.agg (cItem y0)] (.val (sV rr))) (x0 : Item) (r : (List UInt8)) (h : gs_ref05_Put self x0 = some r) : Fun Try.prog 39 [.agg (cItem x0)] (.val (sV r)) := by
  refine Fun.of_bodyQ Try.func39 rfl (by simp [Try.ntmps39]) ?_
  rw [Try.ntmps39, TT.res_39]
  refine QW.view (s' := ⟨tab [(0, .d (.agg (cItem x0)))], tabH [], 0, []⟩) (View.init (by rfl)) zL ?_
  replace h := theC_get h
  obtain ⟨_, h⟩ := h
  obtain ⟨k_0, rfl, h9⟩ := run_succ h; replace h := h9; clear h9; rw [step_ref05_Put] at h
  refine sR ?_
  refine XK.fz (some 1) rfl rfl (sf_boxF (ds := cItem x0) rfl rfl rfl rfl rfl ?_)
  refine xz 2 (pS ([] : List UInt8)) ?_
  refine QW.seq ?_
  refine sR ?_
  refine xs 5 rfl (sf_fldC rfl TT.fldA_64_0 (by decide) rfl ?_)
  refine xs 6 rfl (sf_ldC (d := .val (.bool (x0.fList))) rfl TT.tyA_4 rfl (LdC.one) ?_)
  refine xs 7 rfl (sf_not rfl rfl ?_)
  refine XK.nz ?_
  refine QW.cond (t := (!(x0).fList)) rfl zL (fun hb_1 => ?_) (fun hb_1 => ?_)
  · replace h := bGT h hb_1
    refine QW.seq ?_
    refine sR ?_
    refine xs 8 rfl (sf_fldC rfl TT.fldA_64_1 (by decide) rfl ?_)
    refine xs 9 rfl (sf_ldC (d := .val (sV (x0.fS))) rfl TT.tyA_9 rfl (LdC.one) ?_)
    refine xs 10 rfl (sf_lenS (l := x0.fS) rfl TT.under_9 rfl ?_)
    refine xs 11 rfl (sf_eq (a := ((x0.fS).length : Int)) (b := (1 : Int)) rfl rfl rfl ?_)
    refine xm 12 (pB (decide (((x0.fS).length : Int) = (1 : Int)))) ?_
    refine xg 13 (.d (.cptr ((cItem x0).drop 1))) rfl rfl (fun hg => sf_fldC rfl TT.fldA_64_1 (by decide) rfl g3) ?_
    refine xg 14 (pS (x0.fS)) rfl rfl (fun hg => sf_ldC (d := .val (sV (x0.fS))) rfl TT.tyA_9 rfl (LdC.one) g3) ?_
    obtain ⟨c_2, h⟩ := gG h
    refine xg 15 (.d (.val (.int .u8 ((idx (x0.fS) (0 : Int)).toNat : Int)))) rfl rfl (fun hg => sf_idxS (l := x0.fS) (i := (0 : Int)) rfl TT.under_9 TT.arrA_9 rfl rfl (c_2 (eqB hg)) g3) ?_
    refine xg 16 (pB (decide (((idx (x0.fS) (0 : Int)).toNat : Int) ≤ (127 : Int)))) rfl rfl (fun hg => sf_leq (a := ((idx (x0.fS) (0 : Int)).toNat : Int)) (b := (127 : Int)) rfl rfl rfl g3) ?_
    refine xs 17 rfl (sf_pickA rfl rfl rfl rfl (fun hb => by rw [hb]; rfl) (fun _ => rfl) ?_)
    refine XK.nz ?_
    refine QW.cond (t := ((decide (((x0.fS).length : Int) = (1 : Int))) && (decide (((idx (x0.fS) (0 : Int)).toNat : Int) ≤ (127 : Int))))) rfl zL (fun hb_3 => ?_) (fun hb_3 => ?_)
    · replace h := bGT h hb_3
      refine sR ?_
      refine xs 18 rfl (sf_fldC rfl TT.fldA_64_1 (by decide) rfl ?_)
      refine xs 19 rfl (sf_ldC (d := .val (sV (x0.fS))) rfl TT.tyA_9 rfl (LdC.one) ?_)
      refine xz 2 (pS (x0.fS)) ?_
      refine QW.ret zL (thR (thR ?_))
      obtain rfl := sG h
      exact Ends.one (.inr rfl) rfl (ResIs.tmp rfl) rfl rfl
    · replace h := bGF h hb_3
      refine QW.skip zL (nrm ?_)
      refine QW.seq ?_
      refine QW.region zL (PW.regQ (id := 4) mixedX (M := _) rfl (by kernel_rfl) ?_)
      refine RQ.st (some 20) rfl rfl (sf_fldC rfl TT.fldA_64_1 (by decide) rfl ⟨⟨rfl, rfl⟩, ?_⟩)
      refine RQ.st (some 21) rfl rfl (sf_ldC (d := .val (sV (x0.fS))) rfl TT.tyA_9 rfl (LdC.one) ⟨⟨rfl, rfl⟩, ?_⟩)
      refine RQ.st (some 22) rfl rfl (sf_lenS (l := x0.fS) rfl TT.under_9 rfl ⟨⟨rfl, rfl⟩, ?_⟩)
      obtain ⟨x_4, hx_5, h⟩ := bG h
      refine RQ.st (some 23) rfl rfl (sf_call rfl rfl TT.enters_35 rfl (sim_ref05_Head ((x0.fS).length : Int) false _ hx_5) ⟨⟨rfl, rfl⟩, ?_⟩)
      refine RQ.st (some 24) rfl rfl (sf_fldC rfl TT.fldA_64_1 (by decide) rfl ⟨⟨rfl, rfl⟩, ?_⟩)
      refine RQ.st (some 25) rfl rfl (sf_ldC (d := .val (sV (x0.fS))) rfl TT.tyA_9 rfl (LdC.one) ⟨⟨rfl, rfl⟩, ?_⟩)
      obtain ⟨c_6, h⟩ := gG h
      refine RQ.st (some 26) rfl rfl (sf_cat (a := x_4) (b := x0.fS) rfl rfl rfl c_6 ⟨⟨rfl, rfl⟩, ?_⟩)
      refine RQ.st (some 2) rfl rfl (sf_assign (v := pS (x_4 ++ x0.fS)) rfl rfl ⟨⟨rfl, rfl⟩, ?_⟩)
      refine RQ.nil (nrm ?_)
      refine QW.ret zL (thR ?_)
      obtain rfl := sG h
      exact Ends.one (.inr rfl) rfl (ResIs.tmp rfl) rfl rfl
  · replace h := bGF h hb_1
    refine QW.skip zL (nrm ?_)
    refine sR ?_
    refine xz 3 (pS ([] : List UInt8)) ?_
    refine QW.seq ?_
    refine sR ?_
    refine xz 4 (pI (0)) ?_
    refine QW.block ?_
    refine QW.loop (fun k σ => ∃ v3 : (List UInt8), ∃ v4 : Int, k ≤ k_0 ∧ run (step_ref05_Put self x0) k (.L1 v3 v4) = some r ∧ σ = ⟨tab [(1, .d (.cptr (cItem x0))), (3, pS v3), (4, pI v4)], tabH [], 0, []⟩) k_0 zL ⟨⟨tab [(1, .d (.cptr (cItem x0))), (3, pS ([] : List UInt8)), (4, pI (0))], tabH [], 0, []⟩, View.mk 0 [] _ _ _ rfl rfl (by decide) (iC (iC (iC trivial))) trivial rfl zL rfl, ([] : List UInt8), 0, Nat.le_refl _, jG h, rfl⟩ ?_
    rintro k_7s _ ⟨v3, v4, k_7h, h, rfl⟩
    obtain ⟨k_7, rfl, h9⟩ := run_succ h; replace h := h9; clear h9; rw [step_ref05_Put] at h
    refine QW.seq ?_
    refine sR ?_
    refine xm 27 (pI v4) ?_
    refine xs 28 rfl (sf_fldC rfl TT.fldA_64_2 (by decide) rfl ?_)
    refine xs 29 rfl (sf_ldC (d := .slice ((x0.fL).map eItem)) rfl TT.tyA_62 rfl (LdC.one) ?_)
    refine xs 30 rfl (sf_lenL (en := eItem) (l := x0.fL) rfl TT.under_62 rfl ?_)
    refine xs 31 rfl (sf_lss (a := v4) (b := ((x0.fL).length : Int)) rfl rfl rfl ?_)
    refine XK.nz ?_
    refine QW.cond (t := (decide (v4 < ((x0.fL).length : Int)))) rfl zL (fun hb_8 => ?_) (fun hb_8 => ?_)
    · replace h := bGT h hb_8
      refine QW.skip zL (nrm ?_)
      refine QW.seq ?_
      refine QW.block ?_
      refine rG ?_
      refine xm 34 (pS v3) ?_
      refine xs 35 rfl (sf_fldC rfl TT.fldA_64_2 (by decide) rfl ?_)
      refine xs 36 rfl (sf_ldC (d := .slice ((x0.fL).map eItem)) rfl TT.tyA_62 rfl (LdC.one) ?_)
      refine xm 37 (pI v4) ?_
      obtain ⟨c_9, h⟩ := gG h
      refine xs 38 rfl (sf_idxA (l := x0.fL) (i := v4) rfl TT.slcA_62 lay_Item rfl rfl c_9 ?_)
      refine xs 39 rfl (sf_ldC (d := .agg (cItem (idx (x0.fL) v4))) rfl TT.tyA_64 rfl (⟨by simp [cItem], rfl⟩) ?_)
      obtain ⟨x_10, hx_11, h⟩ := bG h
      refine xs 40 rfl (sf_call rfl rfl TT.enters_39 rfl (hself (idx (x0.fL) v4) _ hx_11) ?_)
      obtain ⟨c_12, h⟩ := gG h
      refine xs 41 rfl (sf_cat (a := v3) (b := x_10) rfl rfl rfl c_12 ?_)
      refine xa 3 (pS (v3 ++ x_10)) ?_
      refine XK.nil (blN (nrm ?_))
      refine rG ?_
      refine xm 32 (pI v4) ?_
      obtain ⟨c_13, h⟩ := gG h
      refine xs 33 rfl (sf_add (a := v4) (b := (1 : Int)) rfl rfl rfl c_13 ?_)
      refine xz 4 (pI (v4 + (1 : Int))) ?_
      exact ⟨k_7, by omega, ⟨tab [(1, .d (.cptr (cItem x0))), (3, pS (v3 ++ x_10)), (4, pI (v4 + (1 : Int)))], tabH [], 0, []⟩, View.mk 0 [] _ _ _ rfl rfl (by decide) (iC (iC (iC trivial))) trivial rfl zL rfl, (v3 ++ x_10), (v4 + (1 : Int)), by omega, jG h, rfl⟩
    · replace h := bGF h hb_8
      refine QW.exit zL (thX (thX (exE (nrm ?_))))
      refine sR ?_
      refine xm 42 (pS v3) ?_
      refine xs 43 rfl (sf_lenS (l := v3) rfl TT.under_9 rfl ?_)
      obtain ⟨x_14, hx_15, h⟩ := bG h
      refine xs 44 rfl (sf_call rfl rfl TT.enters_35 rfl (sim_ref05_Head (v3.length : Int) true _ hx_15) ?_)
      refine xm 45 (pS v3) ?_
      obtain ⟨c_16, h⟩ := gG h
      refine xs 46 rfl (sf_cat (a := x_14) (b := v3) rfl rfl rfl c_16 ?_)
      refine xz 2 (pS (x_14 ++ v3)) ?_
      refine QW.ret zL ?_
      obtain rfl := sG h
      exact Ends.one (.inr rfl) rfl (ResIs.tmp rfl) rfl rfl
noncomputable def rec_ref05_Put : Nat → Item → Option (List UInt8)
  | 0 => fun _ => none
  | n + 1 => fun y0 => gs_ref05_Put (rec_ref05_Put n) y0
theorem simr_ref05_Put : ∀ (n : Nat) (y0 : Item) (rr : (List UInt8)), rec_ref05_Put n y0 = some rr → Fun Try.prog 39 [.agg (cItem y0)] (.val (sV rr))
  | 0, _, _, h => by cases h
  | n + 1, y0, rr, h => sims_ref05_Put (rec_ref05_Put n) (simr_ref05_Put n) y0 rr h
noncomputable def g_ref05_Put (y0 : Item) : Option (List UInt8) := theR (fun n => rec_ref05_Put n y0)
theorem sim_ref05_Put (y0 : Item) (rr : (List UInt8)) (h : g_ref05_Put y0 = some rr) : Fun Try.prog 39 [.agg (cItem y0)] (.val (sV rr)) := by
  obtain ⟨n, hn⟩ := theR_get h
  exact simr_ref05_Put n y0 rr hn
noncomputable def g_ref06_text (s0 : (List UInt8)) : Option (List UInt8) :=
    ((g_ref05_Put (⟨false, s0, ([] : (List Item))⟩ : Item)).bind fun (x_1 : (List UInt8)) =>
    some x_1)
theorem sim_ref06_text (s0 : (List UInt8)) (r : (List UInt8)) (h : g_ref06_text s0 = some r) : Fun Try.prog 32 [.val (sV s0)] (.val (sV r)) := by
  refine Fun.of_bodyQ Try.func32 rfl (by simp [Try.ntmps32]) ?_
  rw [Try.ntmps32, TT.res_32]
  refine QW.view (s' := ⟨tab [(0, pS s0)], tabH [], 0, []⟩) (View.init (by rfl)) zL ?_
  unfold g_ref06_text at h
  refine sR ?_
  refine xz 2 (pS ([] : List UInt8)) ?_
  refine sR ?_
  refine xm 3 (pS s0) ?_
  refine xs 4 rfl (sf_bld (v := .agg [pB false, pS s0, .full (([] : (List Item)).map eItem)]) rfl TT.bldA_64 (build_of rfl (fill_step (cells' := [pB false, pS s0, .full (([] : (List Item)).map eItem)]) rfl rfl rfl bL rfl fill_nil)) ?_)
  obtain ⟨x_1, hx_2, h⟩ := bO h
  refine xs 5 rfl (sf_call rfl rfl TT.enters_39 rfl (sim_ref05_Put (⟨false, s0, ([] : (List Item))⟩ : Item) _ hx_2) ?_)
  refine xz 2 (pS x_1) ?_
  refine QW.ret zL ?_
  obtain rfl := sO h
  exact Ends.one (.inr rfl) rfl (ResIs.tmp rfl) rfl rfl
noncomputable def g_ref06_ref (s0 : (List UInt8)) : Option (List UInt8) :=
    (bif ((s0 == ([] : List UInt8)) || (decide ((s0.length : Int) = (32 : Int)))) then
    ((g_ref06_text s0).bind fun (x_2 : (List UInt8)) =>
    some x_2)
    else
    some s0)
theorem sim_ref06_ref (s0 : (List UInt8)) (r : (List UInt8)) (h : g_ref06_ref s0 = some r) : Fun Try.prog 34 [.val (sV s0)] (.val (sV r)) := by
  refine Fun.of_bodyQ Try.func34 rfl (by simp [Try.ntmps34]) ?_
  rw [Try.ntmps34, TT.res_34]
  refine QW.view (s' := ⟨tab [(0, pS s0)], tabH [], 0, []⟩) (View.init (by rfl)) zL ?_
  unfold g_ref06_ref at h
  refine sR ?_
  refine xz 2 (pS ([] : List UInt8)) ?_
  refine QW.seq ?_
  refine sR ?_
  refine xm 3 (pS s0) ?_
  refine xs 4 rfl (sf_seq (a := s0) (b := ([] : List UInt8)) rfl rfl rfl ?_)
  refine xm 5 (pB (s0 == ([] : List UInt8))) ?_
  refine xg 6 (pS s0) rfl rfl (fun hg => sf_move (v := pS s0) rfl rfl g3) ?_
  refine xg 7 (pI (s0.length : Int)) rfl rfl (fun hg => sf_lenS (l := s0) rfl TT.under_9 rfl g3) ?_
  refine xg 8 (pB (decide ((s0.length : Int) = (32 : Int)))) rfl rfl (fun hg => sf_eq (a := (s0.length : Int)) (b := (32 : Int)) rfl rfl rfl g3) ?_
  refine xs 9 rfl (sf_pickO rfl rfl rfl rfl (fun _ => rfl) (fun hb => by rw [hb]; rfl) ?_)
  refine XK.nz ?_
  refine QW.cond (t := ((s0 == ([] : List UInt8)) || (decide ((s0.length : Int) = (32 : Int))))) rfl zL (fun hb_1 => ?_) (fun hb_1 => ?_)
  · replace h := bT h hb_1
    refine sR ?_
    refine xm 10 (pS s0) ?_
    obtain ⟨x_2, hx_3, h⟩ := bO h
    refine xs 11 rfl (sf_call rfl rfl TT.enters_32 rfl (sim_ref06_text s0 _ hx_3) ?_)
    refine xz 2 (pS x_2) ?_
    refine QW.ret zL (thR ?_)
    obtain rfl := sO h
    exact Ends.one (.inr rfl) rfl (ResIs.tmp rfl) rfl rfl
  · replace h := bF h hb_1
    refine QW.skip zL (nrm ?_)
    refine sR ?_
    refine xm 12 (pS s0) ?_
    refine xz 2 (pS s0) ?_
    refine QW.ret zL ?_
    obtain rfl := sO h
    exact Ends.one (.inr rfl) rfl (ResIs.tmp rfl) rfl rfl
inductive C_ref06_Put where
  | S
  | L4 (v3_8 : (List UInt8)) (v4_3 : Int)
  | J3 (v3_6 : (List UInt8))
noncomputable def step_ref06_Put (n0 : Node) : C_ref06_Put → Option (C_ref06_Put ⊕ (List UInt8))
  | .S =>
    (((bif (decide ((n0.fKind) = (1 : Int))) then
    ((g_ref02_Pack (n0.fPath) true).bind fun (x_2 : (List UInt8)) =>
    ((g_ref06_text x_2).bind fun (x_4 : (List UInt8)) =>
    ((g_ref06_text (n0.fValue)).bind fun (x_6 : (List UInt8)) =>
    gO (x_4.length + x_6.length ≤ 9223372036854775807) (
    some (x_4 ++ x_6)))))
    else
    some ([] : List UInt8)) : Option (List UInt8)).bind fun (v3 : (List UInt8)) =>
    (((bif (decide ((n0.fKind) = (2 : Int))) then
    ((g_ref02_Pack (n0.fPath) false).bind fun (x_10 : (List UInt8)) =>
    ((g_ref06_text x_10).bind fun (x_12 : (List UInt8)) =>
    ((g_ref06_ref (idx (n0.fKids).1 (0 : Int))).bind fun (x_14 : (List UInt8)) =>
    gO (x_12.length + x_14.length ≤ 9223372036854775807) (
    some (x_12 ++ x_14)))))
    else
    some v3) : Option (List UInt8)).bind fun (v3_2 : (List UInt8)) =>
    (bif (decide ((n0.fKind) = (3 : Int))) then
    some (.inl (.L4 v3_2 (0)))
    else
    some (.inl (.J3 v3_2)))))
  | .L4 v3_8 v4_3 =>
    (bif (decide (v4_3 < (16 : Int))) then
    gO (0 ≤ v4_3 ∧ v4_3 < ((16 : Nat) : Int)) (
    ((g_ref06_ref (idx (n0.fKids).1 v4_3)).bind fun (x_21 : (List UInt8)) =>
    gO (v3_8.length + x_21.length ≤ 9223372036854775807) (
    gO (inI (v4_3 + (1 : Int))) (
    some (.inl (.L4 (v3_8 ++ x_21) (v4_3 + (1 : Int))))))))
    else
    gO (v3_8.length + ([128] : List UInt8).length ≤ 9223372036854775807) (
    some (.inl (.J3 (v3_8 ++ ([128] : List UInt8))))))
  | .J3 v3_6 =>
    ((g_ref05_Head (v3_6.length : Int) true).bind fun (x_27 : (List UInt8)) =>
    gO (x_27.length + v3_6.length ≤ 9223372036854775807) (
    some (.inr (x_27 ++ v3_6))))
noncomputable def g_ref06_Put (n0 : Node) : Option (List UInt8) := theC (step_ref06_Put n0) .S
theorem sim_ref06_Put (n0 : Node) (r : (List UInt8)) (h : g_ref06_Put n0 = some r) : Fun Try.prog 21 [.agg (cNode n0)] (.val (sV r)) := by
  refine Fun.of_bodyQ Try.func21 rfl (by simp [Try.ntmps21]) ?_
  rw [Try.ntmps21, TT.res_21]
  refine QW.view (s' := ⟨tab [(0, .d (.agg (cNode n0)))], tabH [], 0, []⟩) (View.init (by rfl)) zL ?_
  replace h := theC_get h
  obtain ⟨_, h⟩ := h
  obtain ⟨k_0, rfl, h9⟩ := run_succ h; replace h := h9; clear h9; rw [step_ref06_Put] at h
  refine sR ?_
  refine XK.fz (some 1) rfl rfl (sf_boxF (ds := cNode n0) rfl rfl rfl rfl toDs_map ?_)
  refine xz 2 (pS ([] : List UInt8)) ?_
  refine sR ?_
  refine xz 3 (pS ([] : List UInt8)) ?_
  obtain ⟨v3, hq, h⟩ := bG h
  refine QW.seqI (fun s' => s' = ⟨tab [(1, .d (.cptr (cNode n0))), (3, pS v3)], tabH [], 0, []⟩) ?_ ?_
  · replace h := hq; clear hq
    refine sR ?_
    refine xs 5 rfl (sf_fldC rfl TT.fldA_46_0 (by decide) rfl ?_)
    refine xs 6 rfl (sf_ldC (d := .val (.int .i64 (n0.fKind))) rfl TT.tyA_3 rfl (ldc_Node_0 _) ?_)
    refine xs 7 rfl (sf_eq (a := (n0.fKind)) (b := (1 : Int)) rfl rfl rfl ?_)
    refine XK.nz ?_
    refine QW.cond (t := (decide ((n0.fKind) = (1 : Int)))) rfl zL (fun hb_1 => ?_) (fun hb_1 => ?_)
    · replace h := bT h hb_1
      refine QW.region zL (PW.regQ (id := 3) mixedX (M := _) rfl (by kernel_rfl) ?_)
      refine RQ.st (some 8) rfl rfl (sf_fldC rfl TT.fldA_46_1 (by decide) rfl ⟨⟨rfl, rfl⟩, ?_⟩)
      refine RQ.st (some 9) rfl rfl (sf_ldC (d := .slice ((n0.fPath).map byteD)) rfl TT.tyA_32 rfl (ldc_Node_1 _) ⟨⟨rfl, rfl⟩, ?_⟩)
      obtain ⟨x_2, hx_3, h⟩ := bO h
      refine RQ.st (some 10) rfl rfl (sf_call rfl rfl TT.enters_33 rfl (sim_ref02_Pack (n0.fPath) true _ hx_3) ⟨⟨rfl, rfl⟩, ?_⟩)
      obtain ⟨x_4, hx_5, h⟩ := bO h
      refine RQ.st (some 11) rfl rfl (sf_call rfl rfl TT.enters_32 rfl (sim_ref06_text x_2 _ hx_5) ⟨⟨rfl, rfl⟩, ?_⟩)
      refine RQ.st (some 12) rfl rfl (sf_fldC rfl TT.fldA_46_2 (by decide) rfl ⟨⟨rfl, rfl⟩, ?_⟩)
      refine RQ.st (some 13) rfl rfl (sf_ldC (d := .val (sV (n0.fValue))) rfl TT.tyA_9 rfl (ldc_Node_2 _) ⟨⟨rfl, rfl⟩, ?_⟩)
      obtain ⟨x_6, hx_7, h⟩ := bO h
      refine RQ.st (some 14) rfl rfl (sf_call rfl rfl TT.enters_32 rfl (sim_ref06_text (n0.fValue) _ hx_7) ⟨⟨rfl, rfl⟩, ?_⟩)
      obtain ⟨c_8, h⟩ := gO_get h
      refine RQ.st (some 15) rfl rfl (sf_cat (a := x_4) (b := x_6) rfl rfl rfl c_8 ⟨⟨rfl, rfl⟩, ?_⟩)
      refine RQ.st (some 3) rfl rfl (sf_assign (v := pS (x_4 ++ x_6)) rfl rfl ⟨⟨rfl, rfl⟩, ?_⟩)
      refine RQ.nil (nrm ?_)
      obtain rfl := sO h
      exact ⟨⟨tab [(1, .d (.cptr (cNode n0))), (3, pS (x_4 ++ x_6))], tabH [], 0, []⟩, View.mk 0 [] _ _ _ rfl rfl (by decide) (iC (iC trivial)) trivial rfl zL rfl, rfl⟩
    · replace h := bF h hb_1
      refine QW.skip zL (nrm ?_)
      obtain rfl := sO h
      exact ⟨⟨tab [(1, .d (.cptr (cNode n0))), (3, pS ([] : List UInt8))], tabH [], 0, []⟩, View.mk 0 [] _ _ _ rfl rfl (by decide) (iC (iC trivial)) trivial rfl zL rfl, rfl⟩
  · rintro _ rfl
    obtain ⟨v3_2, hq, h⟩ := bG h
    refine QW.seqI (fun s' => s' = ⟨tab [(1, .d (.cptr (cNode n0))), (3, pS v3_2)], tabH [], 0, []⟩) ?_ ?_
    · replace h := hq; clear hq
      refine sR ?_
      refine xs 16 rfl (sf_fldC rfl TT.fldA_46_0 (by decide) rfl ?_)
      refine xs 17 rfl (sf_ldC (d := .val (.int .i64 (n0.fKind))) rfl TT.tyA_3 rfl (ldc_Node_0 _) ?_)
      refine xs 18 rfl (sf_eq (a := (n0.fKind)) (b := (2 : Int)) rfl rfl rfl ?_)
      refine XK.nz ?_
      refine QW.cond (t := (decide ((n0.fKind) = (2 : Int)))) rfl zL (fun hb_9 => ?_) (fun hb_9 => ?_)
      · replace h := bT h hb_9
        refine QW.region zL (PW.regQ (id := 5) mixedX (M := _) rfl (by kernel_rfl) ?_)
        refine RQ.st (some 19) rfl rfl (sf_fldC rfl TT.fldA_46_1 (by decide) rfl ⟨⟨rfl, rfl⟩, ?_⟩)
        refine RQ.st (some 20) rfl rfl (sf_ldC (d := .slice ((n0.fPath).map byteD)) rfl TT.tyA_32 rfl (ldc_Node_1 _) ⟨⟨rfl, rfl⟩, ?_⟩)
        obtain ⟨x_10, hx_11, h⟩ := bO h
        refine RQ.st (some 21) rfl rfl (sf_call rfl rfl TT.enters_33 rfl (sim_ref02_Pack (n0.fPath) false _ hx_11) ⟨⟨rfl, rfl⟩, ?_⟩)
        obtain ⟨x_12, hx_13, h⟩ := bO h
        refine RQ.st (some 22) rfl rfl (sf_call rfl rfl TT.enters_32 rfl (sim_ref06_text x_10 _ hx_13) ⟨⟨rfl, rfl⟩, ?_⟩)
        refine RQ.st (some 23) rfl rfl (sf_fldC rfl TT.fldA_46_3 (by decide) rfl ⟨⟨rfl, rfl⟩, ?_⟩)
        refine RQ.st (some 24) rfl rfl (sf_idxC (i := (0 : Int)) rfl TT.slcA_44 TT.arrA_44 rfl rfl (by decide) ⟨⟨rfl, rfl⟩, ?_⟩)
        refine RQ.st (some 25) rfl rfl (sf_ldC (d := .val (sV (idx (n0.fKids).1 (0 : Int)))) rfl TT.tyA_9 rfl (ld_arr (pre_Node_3 _) (by decide)) ⟨⟨rfl, rfl⟩, ?_⟩)
        obtain ⟨x_14, hx_15, h⟩ := bO h
        refine RQ.st (some 26) rfl rfl (sf_call rfl rfl TT.enters_34 rfl (sim_ref06_ref (idx (n0.fKids).1 (0 : Int)) _ hx_15) ⟨⟨rfl, rfl⟩, ?_⟩)
        obtain ⟨c_16, h⟩ := gO_get h
        refine RQ.st (some 27) rfl rfl (sf_cat (a := x_12) (b := x_14) rfl rfl rfl c_16 ⟨⟨rfl, rfl⟩, ?_⟩)
        refine RQ.st (some 3) rfl rfl (sf_assign (v := pS (x_12 ++ x_14)) rfl rfl ⟨⟨rfl, rfl⟩, ?_⟩)
        refine RQ.nil (nrm ?_)
        obtain rfl := sO h
        exact ⟨⟨tab [(1, .d (.cptr (cNode n0))), (3, pS (x_12 ++ x_14))], tabH [], 0, []⟩, View.mk 0 [] _ _ _ rfl rfl (by decide) (iC (iC trivial)) trivial rfl zL rfl, rfl⟩
      · replace h := bF h hb_9
        refine QW.skip zL (nrm ?_)
        obtain rfl := sO h
        exact ⟨⟨tab [(1, .d (.cptr (cNode n0))), (3, pS v3)], tabH [], 0, []⟩, View.mk 0 [] _ _ _ rfl rfl (by decide) (iC (iC trivial)) trivial rfl zL rfl, rfl⟩
    · rintro _ rfl
      refine QW.seqI (fun s' => ∃ v3_6 : (List UInt8), ∃ k : Nat, k ≤ k_0 ∧ run (step_ref06_Put n0) k (.J3 v3_6) = some r ∧ s' = ⟨tab [(3, pS v3_6)], tabH [], 0, []⟩) ?_ ?_
      · refine sR ?_
        refine xs 28 rfl (sf_fldC rfl TT.fldA_46_0 (by decide) rfl ?_)
        refine xs 29 rfl (sf_ldC (d := .val (.int .i64 (n0.fKind))) rfl TT.tyA_3 rfl (ldc_Node_0 _) ?_)
        refine xs 30 rfl (sf_eq (a := (n0.fKind)) (b := (3 : Int)) rfl rfl rfl ?_)
        refine XK.nz ?_
        refine QW.cond (t := (decide ((n0.fKind) = (3 : Int)))) rfl zL (fun hb_17 => ?_) (fun hb_17 => ?_)
        · replace h := bGT h hb_17
          refine QW.seq ?_
          refine sR ?_
          refine xz 4 (pI (0)) ?_
          refine QW.block ?_
          refine QW.loop (fun k σ => ∃ v3_8 : (List UInt8), ∃ v4_3 : Int, k ≤ k_0 ∧ run (step_ref06_Put n0) k (.L4 v3_8 v4_3) = some r ∧ σ = ⟨tab [(1, .d (.cptr (cNode n0))), (3, pS v3_8), (4, pI v4_3)], tabH [], 0, []⟩) k_0 zL ⟨⟨tab [(1, .d (.cptr (cNode n0))), (3, pS v3_2), (4, pI (0))], tabH [], 0, []⟩, View.mk 0 [] _ _ _ rfl rfl (by decide) (iC (iC (iC trivial))) trivial rfl zL rfl, v3_2, 0, Nat.le_refl _, jG h, rfl⟩ ?_
          rintro k_18s _ ⟨v3_8, v4_3, k_18h, h, rfl⟩
          obtain ⟨k_18, rfl, h9⟩ := run_succ h; replace h := h9; clear h9; rw [step_ref06_Put] at h
          refine QW.seq ?_
          refine sR ?_
          refine xm 31 (pI v4_3) ?_
          refine xs 32 rfl (sf_lss (a := v4_3) (b := (16 : Int)) rfl rfl rfl ?_)
          refine XK.nz ?_
          refine QW.cond (t := (decide (v4_3 < (16 : Int)))) rfl zL (fun hb_19 => ?_) (fun hb_19 => ?_)
          · replace h := bGT h hb_19
            refine QW.skip zL (nrm ?_)
            refine QW.seq ?_
            refine QW.block ?_
            refine rG ?_
            refine xm 35 (pS v3_8) ?_
            refine xm 36 (pI v4_3) ?_
            refine xs 37 rfl (sf_fldC rfl TT.fldA_46_3 (by decide) rfl ?_)
            obtain ⟨c_20, h⟩ := gG h
            refine xs 38 rfl (sf_idxC (i := v4_3) rfl TT.slcA_44 TT.arrA_44 rfl rfl c_20 ?_)
            refine xs 39 rfl (sf_ldC (d := .val (sV (idx (n0.fKids).1 v4_3))) rfl TT.tyA_9 rfl (ld_arr (pre_Node_3 _) c_20) ?_)
            obtain ⟨x_21, hx_22, h⟩ := bG h
            refine xs 40 rfl (sf_call rfl rfl TT.enters_34 rfl (sim_ref06_ref (idx (n0.fKids).1 v4_3) _ hx_22) ?_)
            obtain ⟨c_23, h⟩ := gG h
            refine xs 41 rfl (sf_cat (a := v3_8) (b := x_21) rfl rfl rfl c_23 ?_)
            refine xa 3 (pS (v3_8 ++ x_21)) ?_
            refine XK.nil (blN (nrm ?_))
            refine rG ?_
            refine xm 33 (pI v4_3) ?_
            obtain ⟨c_24, h⟩ := gG h
            refine xs 34 rfl (sf_add (a := v4_3) (b := (1 : Int)) rfl rfl rfl c_24 ?_)
            refine xz 4 (pI (v4_3 + (1 : Int))) ?_
            exact ⟨k_18, by omega, ⟨tab [(1, .d (.cptr (cNode n0))), (3, pS (v3_8 ++ x_21)), (4, pI (v4_3 + (1 : Int)))], tabH [], 0, []⟩, View.mk 0 [] _ _ _ rfl rfl (by decide) (iC (iC (iC trivial))) trivial rfl zL rfl, (v3_8 ++ x_21), (v4_3 + (1 : Int)), by omega, jG h, rfl⟩
          · replace h := bGF h hb_19
            refine QW.exit zL (thX (thX (exE (nrm ?_))))
            refine rG ?_
            refine xm 42 (pS v3_8) ?_
            obtain ⟨c_25, h⟩ := gG h
            refine xs 43 rfl (sf_cat (a := v3_8) (b := ([128] : List UInt8)) rfl rfl rfl c_25 ?_)
            refine xz 3 (pS (v3_8 ++ ([128] : List UInt8))) ?_
            exact ⟨⟨tab [(3, pS (v3_8 ++ ([128] : List UInt8)))], tabH [], 0, []⟩, View.mk 0 [] _ _ _ rfl rfl (by decide) (iC trivial) trivial rfl zL rfl, (v3_8 ++ ([128] : List UInt8)), k_18, by omega, jG h, rfl⟩
        · replace h := bGF h hb_17
          refine QW.skip zL (nrm ?_)
          exact ⟨⟨tab [(3, pS v3_2)], tabH [], 0, []⟩, View.mk 0 [] _ _ _ rfl rfl (by decide) (iC trivial) trivial rfl zL rfl, v3_2, k_0, by omega, jG h, rfl⟩
      · rintro _ ⟨v3_6, k_26s, k_26h, h, rfl⟩
        obtain ⟨k_26, rfl, h9⟩ := run_succ h; replace h := h9; clear h9; rw [step_ref06_Put] at h
        refine sR ?_
        refine xm 44 (pS v3_6) ?_
        refine xs 45 rfl (sf_lenS (l := v3_6) rfl TT.under_9 rfl ?_)
        obtain ⟨x_27, hx_28, h⟩ := bG h
        refine xs 46 rfl (sf_call rfl rfl TT.enters_35 rfl (sim_ref05_Head (v3_6.length : Int) true _ hx_28) ?_)
        refine xm 47 (pS v3_6) ?_
        obtain ⟨c_29, h⟩ := gG h
        refine xs 48 rfl (sf_cat (a := x_27) (b := v3_6) rfl rfl rfl c_29 ?_)
        refine xz 2 (pS (x_27 ++ v3_6)) ?_
        refine QW.ret zL ?_
        obtain rfl := sG h
        exact Ends.one (.inr rfl) rfl (ResIs.tmp rfl) rfl rfl
end Go.Proofs.Ytfnlcnnoedmfiaa.K
