/- The references of layer 06: what they reckon. -/
import Derived.Test.YtoeppofkmcdknaaAWNode
import Derived.KernelRfl
namespace Go.Proofs.Ytoeppofkmcdknaa.K
open Go Go.RowKit
set_option linter.unusedSimpArgs false
set_option linter.unusedVariables false
set_option maxRecDepth 20000
set_option maxHeartbeats 4000000
namespace TT
theorem enters_100 : entersB Try.prog 100 = true := by kernel_rfl
theorem enters_108 : entersB Try.prog 108 = true := by kernel_rfl
theorem enters_109 : entersB Try.prog 109 = true := by kernel_rfl
theorem enters_110 : entersB Try.prog 110 = true := by kernel_rfl
theorem enters_111 : entersB Try.prog 111 = true := by kernel_rfl
theorem enters_112 : entersB Try.prog 112 = true := by kernel_rfl
theorem enters_113 : entersB Try.prog 113 = true := by kernel_rfl
theorem enters_114 : entersB Try.prog 114 = true := by kernel_rfl
theorem enters_151 : entersB Try.prog 151 = true := by kernel_rfl
theorem enters_152 : entersB Try.prog 152 = true := by kernel_rfl
theorem enters_35 : entersB Try.prog 35 = true := by kernel_rfl
theorem enters_38 : entersB Try.prog 38 = true := by kernel_rfl
theorem enters_40 : entersB Try.prog 40 = true := by kernel_rfl
theorem enters_48 : entersB Try.prog 48 = true := by kernel_rfl
theorem enters_99 : entersB Try.prog 99 = true := by kernel_rfl
theorem res_100 : Try.f100.results.toList = [.tmp 2] := rfl
theorem res_108 : Try.f108.results.toList = [.tmp 2] := rfl
theorem res_109 : Try.f109.results.toList = [.tmp 4] := rfl
theorem res_110 : Try.f110.results.toList = [.tmp 2] := rfl
theorem res_111 : Try.f111.results.toList = [.tmp 4] := rfl
theorem res_112 : Try.f112.results.toList = [.cell 6 125, .tmp 7, .tmp 8, .tmp 9] := rfl
theorem res_113 : Try.f113.results.toList = [.tmp 2, .tmp 3, .tmp 4] := rfl
theorem res_114 : Try.f114.results.toList = [.tmp 2, .tmp 3] := rfl
theorem res_151 : Try.f151.results.toList = [.tmp 2] := rfl
theorem res_152 : Try.f152.results.toList = [.tmp 2] := rfl
theorem res_35 : Try.f35.results.toList = [.tmp 2] := rfl
theorem res_38 : Try.f38.results.toList = [.tmp 2] := rfl
theorem res_40 : Try.f40.results.toList = [.cell 2 52, .tmp 3] := rfl
theorem res_44 : Try.f44.results.toList = [.tmp 4] := rfl
theorem res_48 : Try.f48.results.toList = [.tmp 2] := rfl
theorem res_99 : Try.f99.results.toList = [.tmp 2] := rfl
end TT
inductive C_ref05_Read where
  | S
  | L2 (v13_3 : Int) (v16_2 : Int)
  | J1 (v13_2 : Int) (v14 : Int)
  | L3 (left2_2 : Int) (v13_5 : Int) (v14_3 : Int) (v17_2 : (List UInt8)) (v18_2 : (List Item))
noncomputable def step_ref05_Read (self : (List UInt8) → Int → Int → Option (Item × Int × Int × Int)) (s0 : (List UInt8)) (depth1 : Int) (left2 : Int) : C_ref05_Read → Option (C_ref05_Read ⊕ (Item × Int × Int × Int))
  | .S =>
    (bif (decide ((64 : Int) < depth1)) then
    some (.inr ((⟨false, ([] : List UInt8), ([] : (List Item))⟩ : Item), 0, 0, 17))
    else
    (bif (decide (left2 < (1 : Int))) then
    some (.inr ((⟨false, ([] : List UInt8), ([] : (List Item))⟩ : Item), 0, 0, 4))
    else
    gO (inI (left2 - (1 : Int))) (
    (bif (s0 == ([] : List UInt8)) then
    some (.inr ((⟨false, ([] : List UInt8), ([] : (List Item))⟩ : Item), 0, 0, 5))
    else
    gO (0 ≤ (0 : Int) ∧ (0 : Int) < (s0.length : Int)) (
    (bif (decide (((idx s0 (0 : Int)).toNat : Int) < (128 : Int))) then
    gO (0 ≤ (0 : Int) ∧ (0 : Int) ≤ (1 : Int) ∧ (1 : Int) ≤ (s0.length : Int)) (
    some (.inr ((⟨false, (sub s0 (0 : Int) (1 : Int)), ([] : (List Item))⟩ : Item), 1, (left2 - (1 : Int)), 0)))
    else
    (bif (decide ((55 : Int) < (((idx s0 (0 : Int)).toNat : Int).tmod (64 : Int)))) then
    gO (inI ((((idx s0 (0 : Int)).toNat : Int).tmod (64 : Int)) - (55 : Int))) (
    gO (inI ((1 : Int) + ((((idx s0 (0 : Int)).toNat : Int).tmod (64 : Int)) - (55 : Int)))) (
    (bif (decide ((s0.length : Int) < ((1 : Int) + ((((idx s0 (0 : Int)).toNat : Int).tmod (64 : Int)) - (55 : Int))))) then
    some (.inr ((⟨false, ([] : List UInt8), ([] : (List Item))⟩ : Item), 0, 0, 5))
    else
    gO (0 ≤ (1 : Int) ∧ (1 : Int) < (s0.length : Int)) (
    (bif (decide (((idx s0 (1 : Int)).toNat : Int) = (0 : Int))) then
    some (.inr ((⟨false, ([] : List UInt8), ([] : (List Item))⟩ : Item), 0, 0, 6))
    else
    some (.inl (.L2 (0) (1))))))))
    else
    some (.inl (.J1 (((idx s0 (0 : Int)).toNat : Int).tmod (64 : Int)) (1))))))))))
  | .L2 v13_3 v16_2 =>
    (bif (decide (v16_2 ≤ ((((idx s0 (0 : Int)).toNat : Int).tmod (64 : Int)) - (55 : Int)))) then
    (bif (decide ((4294967296 : Int) ≤ v13_3)) then
    some (.inr ((⟨false, ([] : List UInt8), ([] : (List Item))⟩ : Item), 0, 0, 5))
    else
    gO (inI ((256 : Int) * v13_3)) (
    gO (0 ≤ v16_2 ∧ v16_2 < (s0.length : Int)) (
    gO (inI (((256 : Int) * v13_3) + ((idx s0 v16_2).toNat : Int))) (
    gO (inI (v16_2 + (1 : Int))) (
    some (.inl (.L2 (((256 : Int) * v13_3) + ((idx s0 v16_2).toNat : Int)) (v16_2 + (1 : Int)))))))))
    else
    (bif (decide (v13_3 < (56 : Int))) then
    some (.inr ((⟨false, ([] : List UInt8), ([] : (List Item))⟩ : Item), 0, 0, 6))
    else
    gO (inI ((1 : Int) + ((((idx s0 (0 : Int)).toNat : Int).tmod (64 : Int)) - (55 : Int)))) (
    some (.inl (.J1 v13_3 ((1 : Int) + ((((idx s0 (0 : Int)).toNat : Int).tmod (64 : Int)) - (55 : Int))))))))
  | .J1 v13_2 v14 =>
    gO (inI ((s0.length : Int) - v14)) (
    (bif (decide (((s0.length : Int) - v14) < v13_2)) then
    some (.inr ((⟨false, ([] : List UInt8), ([] : (List Item))⟩ : Item), 0, 0, 5))
    else
    gO (inI (v14 + v13_2)) (
    gO (0 ≤ v14 ∧ v14 ≤ (v14 + v13_2) ∧ (v14 + v13_2) ≤ (s0.length : Int)) (
    (bif (!(decide ((192 : Int) ≤ ((idx s0 (0 : Int)).toNat : Int)))) then
    gO ((decide (v13_2 = (1 : Int))) = true → 0 ≤ (0 : Int) ∧ (0 : Int) < ((sub s0 v14 (v14 + v13_2)).length : Int)) (
    (bif ((decide (v13_2 = (1 : Int))) && (decide (((idx (sub s0 v14 (v14 + v13_2)) (0 : Int)).toNat : Int) < (128 : Int)))) then
    some (.inr ((⟨false, ([] : List UInt8), ([] : (List Item))⟩ : Item), 0, 0, 6))
    else
    gO (inI (v14 + v13_2)) (
    some (.inr ((⟨false, (sub s0 v14 (v14 + v13_2)), ([] : (List Item))⟩ : Item), (v14 + v13_2), (left2 - (1 : Int)), 0)))))
    else
    some (.inl (.L3 (left2 - (1 : Int)) v13_2 v14 (sub s0 v14 (v14 + v13_2)) ([] : (List Item)))))))))
  | .L3 left2_2 v13_5 v14_3 v17_2 v18_2 =>
    (bif (!(v17_2 == ([] : List UInt8))) then
    gO (inI (depth1 + (1 : Int))) (
    ((self v17_2 (depth1 + (1 : Int)) left2_2).bind fun (x_35 : (Item × Int × Int × Int)) =>
    (bif (!decide ((x_35.2.2.2) = (0 : Int))) then
    some (.inr ((⟨false, ([] : List UInt8), ([] : (List Item))⟩ : Item), 0, 0, x_35.2.2.2))
    else
    gO ((v18_2.length + ([x_35.1] : List Item).length) * 48 ≤ 140737488355328) (
    gO (0 ≤ (x_35.2.1) ∧ (x_35.2.1) ≤ (v17_2.length : Int) ∧ (v17_2.length : Int) ≤ (v17_2.length : Int)) (
    some (.inl (.L3 (x_35.2.2.1) v13_5 v14_3 (sub v17_2 (x_35.2.1) (v17_2.length : Int)) (v18_2 ++ ([x_35.1] : List Item)))))))))
    else
    gO (inI (v14_3 + v13_5)) (
    some (.inr ((⟨true, ([] : List UInt8), v18_2⟩ : Item), (v14_3 + v13_5), left2_2, 0))))
noncomputable def gs_ref05_Read (self : (List UInt8) → Int → Int → Option (Item × Int × Int × Int)) (s0 : (List UInt8)) (depth1 : Int) (left2 : Int) : Option (Item × Int × Int × Int) := theC (step_ref05_Read self s0 depth1 left2) .S
theorem sims_ref05_Read (self : (List UInt8) → Int → Int → Option (Item × Int × Int × Int)) (hself : ∀ (y0 : (List UInt8)) (y1 : Int) (y2 : Int) (rr : (Item × Int × Int × Int)), self y0 y1 y2 = some rr → Fun Try.prog 112 [.val (sV y0), .val (.int .i64 y1), .val (.int .i64 y2)] (.tuple [.agg (cItem (rr.1)), .val (.int .i64 (rr.2.1)), .val (.int .i64 (rr.2.2.1)), .val (.int .i64 (rr.2.2.2))])) (s0 : (List UInt8)) (depth1 : Int) (left2 : Int) (r : (Item × Int × Int × Int)) (h : gs_ref05_Read self s0 depth1 left2 = some r) : Fun Try.prog 112 [.val (sV s0), .val (.int .i64 depth1), .val (.int .i64 left2)] (.tuple [.agg (cItem (r.1)), .val (.int .i64 (r.2.1)), .val (.int .i64 (r.2.2.1)), .val (.int .i64 (r.2.2.2))]) := by
  refine Fun.of_bodyQ Try.func112 rfl (by simp [Try.ntmps112]) ?_
  rw [Try.ntmps112, TT.res_112]
  refine QW.view (s' := ⟨tab [(0, pS s0), (1, pI depth1), (2, pI left2)], tabH [], 0, []⟩) (View.init (by rfl)) zL ?_
  replace h := theC_get h
  obtain ⟨_, h⟩ := h
  obtain ⟨k_0, rfl, h9⟩ := run_succ h; replace h := h9; clear h9; rw [step_ref05_Read] at h
  refine sR ?_
  refine xs 6 rfl (sf_alloc (l := [pB false, pS ([] : List UInt8), .full (([] : (List Item)).map eItem)]) rfl TT.zeroA_125 rfl rfl ?_)
  refine xa 7 (pI (0)) ?_
  refine xa 8 (pI (0)) ?_
  refine xz 9 (pI (0)) ?_
  refine sR ?_
  refine xs 23 rfl (sf_bld (v := .agg [pB false, pS ([] : List UInt8), .full (([] : (List Item)).map eItem)]) rfl TT.bldA_125 (build_of rfl fill_nil) ?_)
  refine xs 10 rfl (sf_alloc (l := [pB false, pS ([] : List UInt8), .full (([] : (List Item)).map eItem)]) rfl TT.zeroA_125 rfl rfl ?_)
  refine XK.st none rfl rfl (sf_stV (l' := [pB false, pS ([] : List UInt8), .full (([] : (List Item)).map eItem)]) rfl TT.tyA_125 rfl rfl rfl rfl rfl rfl (by simp) rfl ?_)
  refine XK.nz ?_
  refine QW.seq ?_
  refine sR ?_
  refine xm 24 (pI depth1) ?_
  refine xs 25 rfl (sf_gtr (a := depth1) (b := (64 : Int)) rfl rfl rfl ?_)
  refine XK.nz ?_
  refine QW.cond (t := (decide ((64 : Int) < depth1))) rfl zL (fun hb_1 => ?_) (fun hb_1 => ?_)
  · replace h := bGT h hb_1
    refine sR ?_
    refine XK.as (some 26) rfl rfl (sf_ldV (v := .agg [pB false, pS ([] : List UInt8), .full (([] : (List Item)).map eItem)]) rfl TT.tyA_125 rfl rfl ⟨⟨by simp, by simp⟩, rfl⟩ ⟨.d (.agg (cItem (⟨false, ([] : List UInt8), ([] : (List Item))⟩ : Item))), (Imp.toD rfl), ?_⟩)
    refine XK.st none rfl rfl (sf_stV (l' := [pB false, pS ([] : List UInt8), .d (.slice (([] : (List Item)).map eItem))]) rfl TT.tyA_125 rfl rfl rfl rfl rfl rfl (by simp) rfl ?_)
    refine xa 7 (pI (0)) ?_
    refine xa 8 (pI (0)) ?_
    refine xz 9 (pI (17)) ?_
    refine QW.ret zL (thR ?_)
    obtain rfl := sG h
    exact Ends.more (.inr rfl) rfl (ps := [.agg [pB false, pS ([] : List UInt8), .d (.slice (([] : (List Item)).map eItem))], pI (0), pI (0), pI (17)]) (And.intro (ResIs.cell rfl rfl TT.tyA_125 ⟨⟨by simp, by simp⟩, rfl⟩) (And.intro (ResIs.tmp rfl) (And.intro (ResIs.tmp rfl) (And.intro (ResIs.tmp rfl) trivial)))) rfl rfl
  · replace h := bGF h hb_1
    refine QW.skip zL (nrm ?_)
    refine QW.seq ?_
    refine sR ?_
    refine xm 27 (pI left2) ?_
    refine xs 28 rfl (sf_lss (a := left2) (b := (1 : Int)) rfl rfl rfl ?_)
    refine XK.nz ?_
    refine QW.cond (t := (decide (left2 < (1 : Int)))) rfl zL (fun hb_2 => ?_) (fun hb_2 => ?_)
    · replace h := bGT h hb_2
      refine sR ?_
      refine XK.as (some 29) rfl rfl (sf_ldV (v := .agg [pB false, pS ([] : List UInt8), .full (([] : (List Item)).map eItem)]) rfl TT.tyA_125 rfl rfl ⟨⟨by simp, by simp⟩, rfl⟩ ⟨.d (.agg (cItem (⟨false, ([] : List UInt8), ([] : (List Item))⟩ : Item))), (Imp.toD rfl), ?_⟩)
      refine XK.st none rfl rfl (sf_stV (l' := [pB false, pS ([] : List UInt8), .d (.slice (([] : (List Item)).map eItem))]) rfl TT.tyA_125 rfl rfl rfl rfl rfl rfl (by simp) rfl ?_)
      refine xa 7 (pI (0)) ?_
      refine xa 8 (pI (0)) ?_
      refine xz 9 (pI (4)) ?_
      refine QW.ret zL (thR ?_)
      obtain rfl := sG h
      exact Ends.more (.inr rfl) rfl (ps := [.agg [pB false, pS ([] : List UInt8), .d (.slice (([] : (List Item)).map eItem))], pI (0), pI (0), pI (4)]) (And.intro (ResIs.cell rfl rfl TT.tyA_125 ⟨⟨by simp, by simp⟩, rfl⟩) (And.intro (ResIs.tmp rfl) (And.intro (ResIs.tmp rfl) (And.intro (ResIs.tmp rfl) trivial)))) rfl rfl
    · replace h := bGF h hb_2
      refine QW.skip zL (nrm ?_)
      refine sR ?_
      refine xm 30 (pI left2) ?_
      obtain ⟨c_3, h⟩ := gG h
      refine xs 31 rfl (sf_sub (a := left2) (b := (1 : Int)) rfl rfl rfl c_3 ?_)
      refine xz 2 (pI (left2 - (1 : Int))) ?_
      refine QW.seq ?_
      refine sR ?_
      refine xm 32 (pS s0) ?_
      refine xs 33 rfl (sf_seq (a := s0) (b := ([] : List UInt8)) rfl rfl rfl ?_)
      refine XK.nz ?_
      refine QW.cond (t := (s0 == ([] : List UInt8))) rfl zL (fun hb_4 => ?_) (fun hb_4 => ?_)
      · replace h := bGT h hb_4
        refine sR ?_
        refine XK.as (some 34) rfl rfl (sf_ldV (v := .agg [pB false, pS ([] : List UInt8), .full (([] : (List Item)).map eItem)]) rfl TT.tyA_125 rfl rfl ⟨⟨by simp, by simp⟩, rfl⟩ ⟨.d (.agg (cItem (⟨false, ([] : List UInt8), ([] : (List Item))⟩ : Item))), (Imp.toD rfl), ?_⟩)
        refine XK.st none rfl rfl (sf_stV (l' := [pB false, pS ([] : List UInt8), .d (.slice (([] : (List Item)).map eItem))]) rfl TT.tyA_125 rfl rfl rfl rfl rfl rfl (by simp) rfl ?_)
        refine xa 7 (pI (0)) ?_
        refine xa 8 (pI (0)) ?_
        refine xz 9 (pI (5)) ?_
        refine QW.ret zL (thR ?_)
        obtain rfl := sG h
        exact Ends.more (.inr rfl) rfl (ps := [.agg [pB false, pS ([] : List UInt8), .d (.slice (([] : (List Item)).map eItem))], pI (0), pI (0), pI (5)]) (And.intro (ResIs.cell rfl rfl TT.tyA_125 ⟨⟨by simp, by simp⟩, rfl⟩) (And.intro (ResIs.tmp rfl) (And.intro (ResIs.tmp rfl) (And.intro (ResIs.tmp rfl) trivial)))) rfl rfl
      · replace h := bGF h hb_4
        refine QW.skip zL (nrm ?_)
        refine sR ?_
        refine xm 35 (pS s0) ?_
        obtain ⟨c_5, h⟩ := gG h
        refine xs 36 rfl (sf_idxS (l := s0) (i := (0 : Int)) rfl TT.under_9 TT.arrA_9 rfl rfl c_5 ?_)
        refine xs 37 rfl (sf_toI (n := ((idx s0 (0 : Int)).toNat : Int)) rfl TT.under_5 TT.under_3 rfl (inI_u8 _) ?_)
        refine xz 11 (pI ((idx s0 (0 : Int)).toNat : Int)) ?_
        refine QW.seq ?_
        refine sR ?_
        refine xm 38 (pI ((idx s0 (0 : Int)).toNat : Int)) ?_
        refine xs 39 rfl (sf_lss (a := ((idx s0 (0 : Int)).toNat : Int)) (b := (128 : Int)) rfl rfl rfl ?_)
        refine XK.nz ?_
        refine QW.cond (t := (decide (((idx s0 (0 : Int)).toNat : Int) < (128 : Int)))) rfl zL (fun hb_6 => ?_) (fun hb_6 => ?_)
        · replace h := bGT h hb_6
          refine sR ?_
          refine xm 40 (pS s0) ?_
          obtain ⟨c_7, h⟩ := gG h
          refine xs 41 rfl (sf_subS (l := s0) (a := (0 : Int)) (b := (1 : Int)) rfl TT.under_9 rfl rfl rfl c_7 ?_)
          refine xs 42 rfl (sf_bld (v := .agg [pB false, pS (sub s0 (0 : Int) (1 : Int)), .full (([] : (List Item)).map eItem)]) rfl TT.bldA_125 (build_of rfl (fill_step (cells' := [pB false, pS (sub s0 (0 : Int) (1 : Int)), .full (([] : (List Item)).map eItem)]) rfl rfl rfl bL rfl fill_nil)) ?_)
          refine xm 43 (pI (left2 - (1 : Int))) ?_
          refine XK.st none rfl rfl (sf_stV (l' := [pB false, pS (sub s0 (0 : Int) (1 : Int)), .full (([] : (List Item)).map eItem)]) rfl TT.tyA_125 rfl rfl rfl rfl rfl rfl (by simp) rfl ?_)
          refine xa 7 (pI (1)) ?_
          refine xa 8 (pI (left2 - (1 : Int))) ?_
          refine xz 9 (pI (0)) ?_
          refine QW.ret zL (thR ?_)
          obtain rfl := sG h
          exact Ends.more (.inr rfl) rfl (ps := [.agg [pB false, pS (sub s0 (0 : Int) (1 : Int)), .full (([] : (List Item)).map eItem)], pI (1), pI (left2 - (1 : Int)), pI (0)]) (And.intro (ResIs.cell rfl rfl TT.tyA_125 ⟨⟨by simp, by simp⟩, rfl⟩) (And.intro (ResIs.tmp rfl) (And.intro (ResIs.tmp rfl) (And.intro (ResIs.tmp rfl) trivial)))) rfl rfl
        · replace h := bGF h hb_6
          refine QW.skip zL (nrm ?_)
          refine sR ?_
          refine xm 44 (pI ((idx s0 (0 : Int)).toNat : Int)) ?_
          refine xs 45 rfl (sf_geq (a := ((idx s0 (0 : Int)).toNat : Int)) (b := (192 : Int)) rfl rfl rfl ?_)
          refine xz 12 (pB (decide ((192 : Int) ≤ ((idx s0 (0 : Int)).toNat : Int)))) ?_
          refine sR ?_
          refine xm 46 (pI ((idx s0 (0 : Int)).toNat : Int)) ?_
          refine xs 47 rfl (sf_rem (a := ((idx s0 (0 : Int)).toNat : Int)) (b := (64 : Int)) rfl rfl rfl (by decide) ?_)
          refine xz 13 (pI (((idx s0 (0 : Int)).toNat : Int).tmod (64 : Int))) ?_
          refine sR ?_
          refine xz 14 (pI (1)) ?_
          refine QW.seqI (fun s' => ∃ v13_2 : Int, ∃ v14 : Int, ∃ k : Nat, k ≤ k_0 ∧ run (step_ref05_Read self s0 depth1 left2) k (.J1 v13_2 v14) = some r ∧ s' = ⟨tab [(0, pS s0), (1, pI depth1), (2, pI (left2 - (1 : Int))), (6, .vptr 0 0), (10, .vptr 1 0), (12, pB (decide ((192 : Int) ≤ ((idx s0 (0 : Int)).toNat : Int)))), (13, pI v13_2), (14, pI v14)], tabH [.var [pB false, pS ([] : List UInt8), .full (([] : (List Item)).map eItem)], .var [pB false, pS ([] : List UInt8), .full (([] : (List Item)).map eItem)]], 2, []⟩) ?_ ?_
          · refine sR ?_
            refine xm 48 (pI (((idx s0 (0 : Int)).toNat : Int).tmod (64 : Int))) ?_
            refine xs 49 rfl (sf_gtr (a := (((idx s0 (0 : Int)).toNat : Int).tmod (64 : Int))) (b := (55 : Int)) rfl rfl rfl ?_)
            refine XK.nz ?_
            refine QW.cond (t := (decide ((55 : Int) < (((idx s0 (0 : Int)).toNat : Int).tmod (64 : Int))))) rfl zL (fun hb_8 => ?_) (fun hb_8 => ?_)
            · replace h := bGT h hb_8
              refine sR ?_
              refine xm 50 (pI (((idx s0 (0 : Int)).toNat : Int).tmod (64 : Int))) ?_
              obtain ⟨c_9, h⟩ := gG h
              refine xs 51 rfl (sf_sub (a := (((idx s0 (0 : Int)).toNat : Int).tmod (64 : Int))) (b := (55 : Int)) rfl rfl rfl c_9 ?_)
              refine xz 15 (pI ((((idx s0 (0 : Int)).toNat : Int).tmod (64 : Int)) - (55 : Int))) ?_
              refine QW.seq ?_
              refine sR ?_
              refine xm 52 (pS s0) ?_
              refine xs 53 rfl (sf_lenS (l := s0) rfl TT.under_9 rfl ?_)
              refine xm 54 (pI ((((idx s0 (0 : Int)).toNat : Int).tmod (64 : Int)) - (55 : Int))) ?_
              obtain ⟨c_10, h⟩ := gG h
              refine xs 55 rfl (sf_add (a := (1 : Int)) (b := ((((idx s0 (0 : Int)).toNat : Int).tmod (64 : Int)) - (55 : Int))) rfl rfl rfl c_10 ?_)
              refine xs 56 rfl (sf_lss (a := (s0.length : Int)) (b := ((1 : Int) + ((((idx s0 (0 : Int)).toNat : Int).tmod (64 : Int)) - (55 : Int)))) rfl rfl rfl ?_)
              refine XK.nz ?_
              refine QW.cond (t := (decide ((s0.length : Int) < ((1 : Int) + ((((idx s0 (0 : Int)).toNat : Int).tmod (64 : Int)) - (55 : Int)))))) rfl zL (fun hb_11 => ?_) (fun hb_11 => ?_)
              · replace h := bGT h hb_11
                refine sR ?_
                refine XK.as (some 57) rfl rfl (sf_ldV (v := .agg [pB false, pS ([] : List UInt8), .full (([] : (List Item)).map eItem)]) rfl TT.tyA_125 rfl rfl ⟨⟨by simp, by simp⟩, rfl⟩ ⟨.d (.agg (cItem (⟨false, ([] : List UInt8), ([] : (List Item))⟩ : Item))), (Imp.toD rfl), ?_⟩)
                refine XK.st none rfl rfl (sf_stV (l' := [pB false, pS ([] : List UInt8), .d (.slice (([] : (List Item)).map eItem))]) rfl TT.tyA_125 rfl rfl rfl rfl rfl rfl (by simp) rfl ?_)
                refine xa 7 (pI (0)) ?_
                refine xa 8 (pI (0)) ?_
                refine xz 9 (pI (5)) ?_
                refine QW.ret zL (thR (thR ?_))
                obtain rfl := sG h
                exact Ends.more (.inr rfl) rfl (ps := [.agg [pB false, pS ([] : List UInt8), .d (.slice (([] : (List Item)).map eItem))], pI (0), pI (0), pI (5)]) (And.intro (ResIs.cell rfl rfl TT.tyA_125 ⟨⟨by simp, by simp⟩, rfl⟩) (And.intro (ResIs.tmp rfl) (And.intro (ResIs.tmp rfl) (And.intro (ResIs.tmp rfl) trivial)))) rfl rfl
              · replace h := bGF h hb_11
                refine QW.skip zL (nrm ?_)
                refine QW.seq ?_
                refine sR ?_
                refine xm 58 (pS s0) ?_
                obtain ⟨c_12, h⟩ := gG h
                refine xs 59 rfl (sf_idxS (l := s0) (i := (1 : Int)) rfl TT.under_9 TT.arrA_9 rfl rfl c_12 ?_)
                refine xs 60 rfl (sf_eq (a := ((idx s0 (1 : Int)).toNat : Int)) (b := (0 : Int)) rfl rfl rfl ?_)
                refine XK.nz ?_
                refine QW.cond (t := (decide (((idx s0 (1 : Int)).toNat : Int) = (0 : Int)))) rfl zL (fun hb_13 => ?_) (fun hb_13 => ?_)
                · replace h := bGT h hb_13
                  refine sR ?_
                  refine XK.as (some 61) rfl rfl (sf_ldV (v := .agg [pB false, pS ([] : List UInt8), .full (([] : (List Item)).map eItem)]) rfl TT.tyA_125 rfl rfl ⟨⟨by simp, by simp⟩, rfl⟩ ⟨.d (.agg (cItem (⟨false, ([] : List UInt8), ([] : (List Item))⟩ : Item))), (Imp.toD rfl), ?_⟩)
                  refine XK.st none rfl rfl (sf_stV (l' := [pB false, pS ([] : List UInt8), .d (.slice (([] : (List Item)).map eItem))]) rfl TT.tyA_125 rfl rfl rfl rfl rfl rfl (by simp) rfl ?_)
                  refine xa 7 (pI (0)) ?_
                  refine xa 8 (pI (0)) ?_
                  refine xz 9 (pI (6)) ?_
                  refine QW.ret zL (thR (thR ?_))
                  obtain rfl := sG h
                  exact Ends.more (.inr rfl) rfl (ps := [.agg [pB false, pS ([] : List UInt8), .d (.slice (([] : (List Item)).map eItem))], pI (0), pI (0), pI (6)]) (And.intro (ResIs.cell rfl rfl TT.tyA_125 ⟨⟨by simp, by simp⟩, rfl⟩) (And.intro (ResIs.tmp rfl) (And.intro (ResIs.tmp rfl) (And.intro (ResIs.tmp rfl) trivial)))) rfl rfl
                · replace h := bGF h hb_13
                  refine QW.skip zL (nrm ?_)
                  refine sR ?_
                  refine xz 13 (pI (0)) ?_
                  refine QW.seq ?_
                  refine sR ?_
                  refine xz 16 (pI (1)) ?_
                  refine QW.block ?_
                  refine QW.loop (fun k σ => ∃ v13_3 : Int, ∃ v16_2 : Int, k ≤ k_0 ∧ run (step_ref05_Read self s0 depth1 left2) k (.L2 v13_3 v16_2) = some r ∧ σ = ⟨tab [(0, pS s0), (1, pI depth1), (2, pI (left2 - (1 : Int))), (6, .vptr 0 0), (10, .vptr 1 0), (12, pB (decide ((192 : Int) ≤ ((idx s0 (0 : Int)).toNat : Int)))), (13, pI v13_3), (15, pI ((((idx s0 (0 : Int)).toNat : Int).tmod (64 : Int)) - (55 : Int))), (16, pI v16_2)], tabH [.var [pB false, pS ([] : List UInt8), .full (([] : (List Item)).map eItem)], .var [pB false, pS ([] : List UInt8), .full (([] : (List Item)).map eItem)]], 2, []⟩) k_0 zL ⟨⟨tab [(0, pS s0), (1, pI depth1), (2, pI (left2 - (1 : Int))), (6, .vptr 0 0), (10, .vptr 1 0), (12, pB (decide ((192 : Int) ≤ ((idx s0 (0 : Int)).toNat : Int)))), (13, pI (0)), (15, pI ((((idx s0 (0 : Int)).toNat : Int).tmod (64 : Int)) - (55 : Int))), (16, pI (1))], tabH [.var [pB false, pS ([] : List UInt8), .full (([] : (List Item)).map eItem)], .var [pB false, pS ([] : List UInt8), .full (([] : (List Item)).map eItem)]], 2, []⟩, View.mk 2 [0, 1] _ _ _ rfl rfl (by decide) (iC (iC (iC (iC (iC (iC (iC (iC (iC trivial))))))))) (And.intro rfl (And.intro rfl trivial)) rfl zL rfl, 0, 1, Nat.le_refl _, jG h, rfl⟩ ?_
                  rintro k_14s _ ⟨v13_3, v16_2, k_14h, h, rfl⟩
                  obtain ⟨k_14, rfl, h9⟩ := run_succ h; replace h := h9; clear h9; rw [step_ref05_Read] at h
                  refine QW.seq ?_
                  refine sR ?_
                  refine xm 62 (pI v16_2) ?_
                  refine xm 63 (pI ((((idx s0 (0 : Int)).toNat : Int).tmod (64 : Int)) - (55 : Int))) ?_
                  refine xs 64 rfl (sf_leq (a := v16_2) (b := ((((idx s0 (0 : Int)).toNat : Int).tmod (64 : Int)) - (55 : Int))) rfl rfl rfl ?_)
                  refine XK.nz ?_
                  refine QW.cond (t := (decide (v16_2 ≤ ((((idx s0 (0 : Int)).toNat : Int).tmod (64 : Int)) - (55 : Int))))) rfl zL (fun hb_15 => ?_) (fun hb_15 => ?_)
                  · replace h := bGT h hb_15
                    refine QW.skip zL (nrm ?_)
                    refine QW.seq ?_
                    refine QW.block ?_
                    refine QW.seq ?_
                    refine sR ?_
                    refine xm 67 (pI v13_3) ?_
                    refine xs 68 rfl (sf_geq (a := v13_3) (b := (4294967296 : Int)) rfl rfl rfl ?_)
                    refine XK.nz ?_
                    refine QW.cond (t := (decide ((4294967296 : Int) ≤ v13_3))) rfl zL (fun hb_16 => ?_) (fun hb_16 => ?_)
                    · replace h := bGT h hb_16
                      refine sR ?_
                      refine XK.as (some 69) rfl rfl (sf_ldV (v := .agg [pB false, pS ([] : List UInt8), .full (([] : (List Item)).map eItem)]) rfl TT.tyA_125 rfl rfl ⟨⟨by simp, by simp⟩, rfl⟩ ⟨.d (.agg (cItem (⟨false, ([] : List UInt8), ([] : (List Item))⟩ : Item))), (Imp.toD rfl), ?_⟩)
                      refine XK.st none rfl rfl (sf_stV (l' := [pB false, pS ([] : List UInt8), .d (.slice (([] : (List Item)).map eItem))]) rfl TT.tyA_125 rfl rfl rfl rfl rfl rfl (by simp) rfl ?_)
                      refine xa 7 (pI (0)) ?_
                      refine xa 8 (pI (0)) ?_
                      refine xz 9 (pI (5)) ?_
                      refine QW.ret zL (thR (blR (thR (thR (blR (thR (thR ?_)))))))
                      obtain rfl := sG h
                      exact Ends.more (.inr rfl) rfl (ps := [.agg [pB false, pS ([] : List UInt8), .d (.slice (([] : (List Item)).map eItem))], pI (0), pI (0), pI (5)]) (And.intro (ResIs.cell rfl rfl TT.tyA_125 ⟨⟨by simp, by simp⟩, rfl⟩) (And.intro (ResIs.tmp rfl) (And.intro (ResIs.tmp rfl) (And.intro (ResIs.tmp rfl) trivial)))) rfl rfl
                    · replace h := bGF h hb_16
                      refine QW.skip zL (nrm ?_)
                      refine rG ?_
                      refine xm 70 (pI v13_3) ?_
                      obtain ⟨c_17, h⟩ := gG h
                      refine xs 71 rfl (sf_mul (a := (256 : Int)) (b := v13_3) rfl rfl rfl c_17 ?_)
                      refine xm 72 (pS s0) ?_
                      refine xm 73 (pI v16_2) ?_
                      obtain ⟨c_18, h⟩ := gG h
                      refine xs 74 rfl (sf_idxS (l := s0) (i := v16_2) rfl TT.under_9 TT.arrA_9 rfl rfl c_18 ?_)
                      refine xs 75 rfl (sf_toI (n := ((idx s0 v16_2).toNat : Int)) rfl TT.under_5 TT.under_3 rfl (inI_u8 _) ?_)
                      obtain ⟨c_19, h⟩ := gG h
                      refine xs 76 rfl (sf_add (a := ((256 : Int) * v13_3)) (b := ((idx s0 v16_2).toNat : Int)) rfl rfl rfl c_19 ?_)
                      refine xa 13 (pI (((256 : Int) * v13_3) + ((idx s0 v16_2).toNat : Int))) ?_
                      refine XK.nil (blN (nrm ?_))
                      refine rG ?_
                      refine xm 65 (pI v16_2) ?_
                      obtain ⟨c_20, h⟩ := gG h
                      refine xs 66 rfl (sf_add (a := v16_2) (b := (1 : Int)) rfl rfl rfl c_20 ?_)
                      refine xz 16 (pI (v16_2 + (1 : Int))) ?_
                      exact ⟨k_14, by omega, ⟨tab [(0, pS s0), (1, pI depth1), (2, pI (left2 - (1 : Int))), (6, .vptr 0 0), (10, .vptr 1 0), (12, pB (decide ((192 : Int) ≤ ((idx s0 (0 : Int)).toNat : Int)))), (13, pI (((256 : Int) * v13_3) + ((idx s0 v16_2).toNat : Int))), (15, pI ((((idx s0 (0 : Int)).toNat : Int).tmod (64 : Int)) - (55 : Int))), (16, pI (v16_2 + (1 : Int)))], tabH [.var [pB false, pS ([] : List UInt8), .full (([] : (List Item)).map eItem)], .var [pB false, pS ([] : List UInt8), .full (([] : (List Item)).map eItem)]], 2, []⟩, View.mk 2 [0, 1] _ _ _ rfl rfl (by decide) (iC (iC (iC (iC (iC (iC (iC (iC (iC trivial))))))))) (And.intro rfl (And.intro rfl trivial)) rfl zL rfl, (((256 : Int) * v13_3) + ((idx s0 v16_2).toNat : Int)), (v16_2 + (1 : Int)), by omega, jG h, rfl⟩
                  · replace h := bGF h hb_15
                    refine QW.exit zL (thX (thX (exE (nrm ?_))))
                    refine QW.seq ?_
                    refine sR ?_
                    refine xm 77 (pI v13_3) ?_
                    refine xs 78 rfl (sf_lss (a := v13_3) (b := (56 : Int)) rfl rfl rfl ?_)
                    refine XK.nz ?_
                    refine QW.cond (t := (decide (v13_3 < (56 : Int)))) rfl zL (fun hb_21 => ?_) (fun hb_21 => ?_)
                    · replace h := bGT h hb_21
                      refine sR ?_
                      refine XK.as (some 79) rfl rfl (sf_ldV (v := .agg [pB false, pS ([] : List UInt8), .full (([] : (List Item)).map eItem)]) rfl TT.tyA_125 rfl rfl ⟨⟨by simp, by simp⟩, rfl⟩ ⟨.d (.agg (cItem (⟨false, ([] : List UInt8), ([] : (List Item))⟩ : Item))), (Imp.toD rfl), ?_⟩)
                      refine XK.st none rfl rfl (sf_stV (l' := [pB false, pS ([] : List UInt8), .d (.slice (([] : (List Item)).map eItem))]) rfl TT.tyA_125 rfl rfl rfl rfl rfl rfl (by simp) rfl ?_)
                      refine xa 7 (pI (0)) ?_
                      refine xa 8 (pI (0)) ?_
                      refine xz 9 (pI (6)) ?_
                      refine QW.ret zL (thR (thR ?_))
                      obtain rfl := sG h
                      exact Ends.more (.inr rfl) rfl (ps := [.agg [pB false, pS ([] : List UInt8), .d (.slice (([] : (List Item)).map eItem))], pI (0), pI (0), pI (6)]) (And.intro (ResIs.cell rfl rfl TT.tyA_125 ⟨⟨by simp, by simp⟩, rfl⟩) (And.intro (ResIs.tmp rfl) (And.intro (ResIs.tmp rfl) (And.intro (ResIs.tmp rfl) trivial)))) rfl rfl
                    · replace h := bGF h hb_21
                      refine QW.skip zL (nrm ?_)
                      refine rG ?_
                      refine xm 80 (pI ((((idx s0 (0 : Int)).toNat : Int).tmod (64 : Int)) - (55 : Int))) ?_
                      obtain ⟨c_22, h⟩ := gG h
                      refine xs 81 rfl (sf_add (a := (1 : Int)) (b := ((((idx s0 (0 : Int)).toNat : Int).tmod (64 : Int)) - (55 : Int))) rfl rfl rfl c_22 ?_)
                      refine xz 14 (pI ((1 : Int) + ((((idx s0 (0 : Int)).toNat : Int).tmod (64 : Int)) - (55 : Int)))) ?_
                      exact ⟨⟨tab [(0, pS s0), (1, pI depth1), (2, pI (left2 - (1 : Int))), (6, .vptr 0 0), (10, .vptr 1 0), (12, pB (decide ((192 : Int) ≤ ((idx s0 (0 : Int)).toNat : Int)))), (13, pI v13_3), (14, pI ((1 : Int) + ((((idx s0 (0 : Int)).toNat : Int).tmod (64 : Int)) - (55 : Int))))], tabH [.var [pB false, pS ([] : List UInt8), .full (([] : (List Item)).map eItem)], .var [pB false, pS ([] : List UInt8), .full (([] : (List Item)).map eItem)]], 2, []⟩, View.mk 2 [0, 1] _ _ _ rfl rfl (by decide) (iC (iC (iC (iC (iC (iC (iC (iC trivial)))))))) (And.intro rfl (And.intro rfl trivial)) rfl zL rfl, v13_3, ((1 : Int) + ((((idx s0 (0 : Int)).toNat : Int).tmod (64 : Int)) - (55 : Int))), k_14, by omega, jG h, rfl⟩
            · replace h := bGF h hb_8
              refine QW.skip zL (nrm ?_)
              exact ⟨⟨tab [(0, pS s0), (1, pI depth1), (2, pI (left2 - (1 : Int))), (6, .vptr 0 0), (10, .vptr 1 0), (12, pB (decide ((192 : Int) ≤ ((idx s0 (0 : Int)).toNat : Int)))), (13, pI (((idx s0 (0 : Int)).toNat : Int).tmod (64 : Int))), (14, pI (1))], tabH [.var [pB false, pS ([] : List UInt8), .full (([] : (List Item)).map eItem)], .var [pB false, pS ([] : List UInt8), .full (([] : (List Item)).map eItem)]], 2, []⟩, View.mk 2 [0, 1] _ _ _ rfl rfl (by decide) (iC (iC (iC (iC (iC (iC (iC (iC trivial)))))))) (And.intro rfl (And.intro rfl trivial)) rfl zL rfl, (((idx s0 (0 : Int)).toNat : Int).tmod (64 : Int)), 1, k_0, by omega, jG h, rfl⟩
          · rintro _ ⟨v13_2, v14, k_23s, k_23h, h, rfl⟩
            obtain ⟨k_23, rfl, h9⟩ := run_succ h; replace h := h9; clear h9; rw [step_ref05_Read] at h
            refine QW.seq ?_
            refine sR ?_
            refine xm 82 (pI v13_2) ?_
            refine xm 83 (pS s0) ?_
            refine xs 84 rfl (sf_lenS (l := s0) rfl TT.under_9 rfl ?_)
            refine xm 85 (pI v14) ?_
            obtain ⟨c_24, h⟩ := gG h
            refine xs 86 rfl (sf_sub (a := (s0.length : Int)) (b := v14) rfl rfl rfl c_24 ?_)
            refine xs 87 rfl (sf_gtr (a := v13_2) (b := ((s0.length : Int) - v14)) rfl rfl rfl ?_)
            refine XK.nz ?_
            refine QW.cond (t := (decide (((s0.length : Int) - v14) < v13_2))) rfl zL (fun hb_25 => ?_) (fun hb_25 => ?_)
            · replace h := bGT h hb_25
              refine sR ?_
              refine XK.as (some 88) rfl rfl (sf_ldV (v := .agg [pB false, pS ([] : List UInt8), .full (([] : (List Item)).map eItem)]) rfl TT.tyA_125 rfl rfl ⟨⟨by simp, by simp⟩, rfl⟩ ⟨.d (.agg (cItem (⟨false, ([] : List UInt8), ([] : (List Item))⟩ : Item))), (Imp.toD rfl), ?_⟩)
              refine XK.st none rfl rfl (sf_stV (l' := [pB false, pS ([] : List UInt8), .d (.slice (([] : (List Item)).map eItem))]) rfl TT.tyA_125 rfl rfl rfl rfl rfl rfl (by simp) rfl ?_)
              refine xa 7 (pI (0)) ?_
              refine xa 8 (pI (0)) ?_
              refine xz 9 (pI (5)) ?_
              refine QW.ret zL (thR ?_)
              obtain rfl := sG h
              exact Ends.more (.inr rfl) rfl (ps := [.agg [pB false, pS ([] : List UInt8), .d (.slice (([] : (List Item)).map eItem))], pI (0), pI (0), pI (5)]) (And.intro (ResIs.cell rfl rfl TT.tyA_125 ⟨⟨by simp, by simp⟩, rfl⟩) (And.intro (ResIs.tmp rfl) (And.intro (ResIs.tmp rfl) (And.intro (ResIs.tmp rfl) trivial)))) rfl rfl
            · replace h := bGF h hb_25
              refine QW.skip zL (nrm ?_)
              refine sR ?_
              refine xm 89 (pS s0) ?_
              refine xm 90 (pI v14) ?_
              refine xm 91 (pI v14) ?_
              refine xm 92 (pI v13_2) ?_
              obtain ⟨c_26, h⟩ := gG h
              refine xs 93 rfl (sf_add (a := v14) (b := v13_2) rfl rfl rfl c_26 ?_)
              obtain ⟨c_27, h⟩ := gG h
              refine xs 94 rfl (sf_subS (l := s0) (a := v14) (b := (v14 + v13_2)) rfl TT.under_9 rfl rfl rfl c_27 ?_)
              refine xz 17 (pS (sub s0 v14 (v14 + v13_2))) ?_
              refine QW.seq ?_
              refine sR ?_
              refine xm 95 (pB (decide ((192 : Int) ≤ ((idx s0 (0 : Int)).toNat : Int)))) ?_
              refine xs 96 rfl (sf_not rfl rfl ?_)
              refine XK.nz ?_
              refine QW.cond (t := (!(decide ((192 : Int) ≤ ((idx s0 (0 : Int)).toNat : Int))))) rfl zL (fun hb_28 => ?_) (fun hb_28 => ?_)
              · replace h := bGT h hb_28
                refine QW.seq ?_
                refine sR ?_
                refine xm 97 (pI v13_2) ?_
                refine xs 98 rfl (sf_eq (a := v13_2) (b := (1 : Int)) rfl rfl rfl ?_)
                refine xm 99 (pB (decide (v13_2 = (1 : Int)))) ?_
                refine xg 100 (pS (sub s0 v14 (v14 + v13_2))) rfl rfl (fun hg => sf_move (v := pS (sub s0 v14 (v14 + v13_2))) rfl rfl g3) ?_
                obtain ⟨c_29, h⟩ := gG h
                refine xg 101 (.d (.val (.int .u8 ((idx (sub s0 v14 (v14 + v13_2)) (0 : Int)).toNat : Int)))) rfl rfl (fun hg => sf_idxS (l := (sub s0 v14 (v14 + v13_2))) (i := (0 : Int)) rfl TT.under_9 TT.arrA_9 rfl rfl (c_29 (eqB hg)) g3) ?_
                refine xg 102 (pB (decide (((idx (sub s0 v14 (v14 + v13_2)) (0 : Int)).toNat : Int) < (128 : Int)))) rfl rfl (fun hg => sf_lss (a := ((idx (sub s0 v14 (v14 + v13_2)) (0 : Int)).toNat : Int)) (b := (128 : Int)) rfl rfl rfl g3) ?_
                refine xs 103 rfl (sf_pickA rfl rfl rfl rfl (fun hb => by rw [hb]; rfl) (fun _ => rfl) ?_)
                refine XK.nz ?_
                refine QW.cond (t := ((decide (v13_2 = (1 : Int))) && (decide (((idx (sub s0 v14 (v14 + v13_2)) (0 : Int)).toNat : Int) < (128 : Int))))) rfl zL (fun hb_30 => ?_) (fun hb_30 => ?_)
                · replace h := bGT h hb_30
                  refine sR ?_
                  refine XK.as (some 104) rfl rfl (sf_ldV (v := .agg [pB false, pS ([] : List UInt8), .full (([] : (List Item)).map eItem)]) rfl TT.tyA_125 rfl rfl ⟨⟨by simp, by simp⟩, rfl⟩ ⟨.d (.agg (cItem (⟨false, ([] : List UInt8), ([] : (List Item))⟩ : Item))), (Imp.toD rfl), ?_⟩)
                  refine XK.st none rfl rfl (sf_stV (l' := [pB false, pS ([] : List UInt8), .d (.slice (([] : (List Item)).map eItem))]) rfl TT.tyA_125 rfl rfl rfl rfl rfl rfl (by simp) rfl ?_)
                  refine xa 7 (pI (0)) ?_
                  refine xa 8 (pI (0)) ?_
                  refine xz 9 (pI (6)) ?_
                  refine QW.ret zL (thR (thR ?_))
                  obtain rfl := sG h
                  exact Ends.more (.inr rfl) rfl (ps := [.agg [pB false, pS ([] : List UInt8), .d (.slice (([] : (List Item)).map eItem))], pI (0), pI (0), pI (6)]) (And.intro (ResIs.cell rfl rfl TT.tyA_125 ⟨⟨by simp, by simp⟩, rfl⟩) (And.intro (ResIs.tmp rfl) (And.intro (ResIs.tmp rfl) (And.intro (ResIs.tmp rfl) trivial)))) rfl rfl
                · replace h := bGF h hb_30
                  refine QW.skip zL (nrm ?_)
                  refine sR ?_
                  refine xm 105 (pS (sub s0 v14 (v14 + v13_2))) ?_
                  refine xs 106 rfl (sf_bld (v := .agg [pB false, pS (sub s0 v14 (v14 + v13_2)), .full (([] : (List Item)).map eItem)]) rfl TT.bldA_125 (build_of rfl (fill_step (cells' := [pB false, pS (sub s0 v14 (v14 + v13_2)), .full (([] : (List Item)).map eItem)]) rfl rfl rfl bL rfl fill_nil)) ?_)
                  refine xm 107 (pI v14) ?_
                  refine xm 108 (pI v13_2) ?_
                  obtain ⟨c_31, h⟩ := gG h
                  refine xs 109 rfl (sf_add (a := v14) (b := v13_2) rfl rfl rfl c_31 ?_)
                  refine xm 110 (pI (left2 - (1 : Int))) ?_
                  refine XK.st none rfl rfl (sf_stV (l' := [pB false, pS (sub s0 v14 (v14 + v13_2)), .full (([] : (List Item)).map eItem)]) rfl TT.tyA_125 rfl rfl rfl rfl rfl rfl (by simp) rfl ?_)
                  refine xa 7 (pI (v14 + v13_2)) ?_
                  refine xa 8 (pI (left2 - (1 : Int))) ?_
                  refine xz 9 (pI (0)) ?_
                  refine QW.ret zL (thR ?_)
                  obtain rfl := sG h
                  exact Ends.more (.inr rfl) rfl (ps := [.agg [pB false, pS (sub s0 v14 (v14 + v13_2)), .full (([] : (List Item)).map eItem)], pI (v14 + v13_2), pI (left2 - (1 : Int)), pI (0)]) (And.intro (ResIs.cell rfl rfl TT.tyA_125 ⟨⟨by simp, by simp⟩, rfl⟩) (And.intro (ResIs.tmp rfl) (And.intro (ResIs.tmp rfl) (And.intro (ResIs.tmp rfl) trivial)))) rfl rfl
              · replace h := bGF h hb_28
                refine QW.skip zL (nrm ?_)
                refine sR ?_
                refine xs 111 rfl (sf_bld (v := .agg [pB true, pS ([] : List UInt8), .full (([] : (List Item)).map eItem)]) rfl TT.bldA_125 (build_of rfl (fill_step (cells' := [pB true, pS ([] : List UInt8), .full (([] : (List Item)).map eItem)]) rfl rfl rfl bL rfl fill_nil)) ?_)
                refine xs 18 rfl (sf_alloc (l := [pB false, pS ([] : List UInt8), .full (([] : (List Item)).map eItem)]) rfl TT.zeroA_125 rfl rfl ?_)
                refine XK.st none rfl rfl (sf_stV (l' := [pB true, pS ([] : List UInt8), .full (([] : (List Item)).map eItem)]) rfl TT.tyA_125 rfl rfl rfl rfl rfl rfl (by simp) rfl ?_)
                refine XK.nz ?_
                refine QW.seq ?_
                refine QW.block ?_
                refine QW.loop (fun k σ => ∃ left2_2 : Int, ∃ v13_5 : Int, ∃ v14_3 : Int, ∃ v17_2 : (List UInt8), ∃ v18_2 : (List Item), k ≤ k_23 ∧ run (step_ref05_Read self s0 depth1 left2) k (.L3 left2_2 v13_5 v14_3 v17_2 v18_2) = some r ∧ σ = ⟨tab [(1, pI depth1), (2, pI left2_2), (6, .vptr 0 0), (10, .vptr 1 0), (13, pI v13_5), (14, pI v14_3), (17, pS v17_2), (18, .vptr 2 0)], tabH [.var [pB false, pS ([] : List UInt8), .full (([] : (List Item)).map eItem)], .var [pB false, pS ([] : List UInt8), .full (([] : (List Item)).map eItem)], .var [pB true, pS ([] : List UInt8), .own 3 (v18_2.map eItem)], .spare 3 v18_2.length], 4, []⟩) k_23 zL ⟨⟨tab [(1, pI depth1), (2, pI (left2 - (1 : Int))), (6, .vptr 0 0), (10, .vptr 1 0), (13, pI v13_2), (14, pI v14), (17, pS (sub s0 v14 (v14 + v13_2))), (18, .vptr 2 0)], tabH [.var [pB false, pS ([] : List UInt8), .full (([] : (List Item)).map eItem)], .var [pB false, pS ([] : List UInt8), .full (([] : (List Item)).map eItem)], .var [pB true, pS ([] : List UInt8), .own 3 (([] : (List Item)).map eItem)], .spare 3 ([] : (List Item)).length], 4, []⟩, View.trans (View.bufV 2 2 3 rfl rfl zL) (View.mk 4 [0, 1, 2, 3] _ _ _ rfl rfl (by decide) (iC (iC (iC (iC (iC (iC (iC (iC trivial)))))))) (And.intro rfl (And.intro rfl (And.intro rfl (And.intro rfl trivial)))) rfl zL rfl), (left2 - (1 : Int)), v13_2, v14, (sub s0 v14 (v14 + v13_2)), ([] : (List Item)), Nat.le_refl _, jG h, rfl⟩ ?_
                rintro k_32s _ ⟨left2_2, v13_5, v14_3, v17_2, v18_2, k_32h, h, rfl⟩
                obtain ⟨k_32, rfl, h9⟩ := run_succ h; replace h := h9; clear h9; rw [step_ref05_Read] at h
                refine QW.seq ?_
                refine sR ?_
                refine xm 112 (pS v17_2) ?_
                refine xs 113 rfl (sf_sne (a := v17_2) (b := ([] : List UInt8)) rfl rfl rfl ?_)
                refine XK.nz ?_
                refine QW.cond (t := (!(v17_2 == ([] : List UInt8)))) rfl zL (fun hb_33 => ?_) (fun hb_33 => ?_)
                · replace h := bGT h hb_33
                  refine QW.skip zL (nrm ?_)
                  refine QW.block ?_
                  refine sR ?_
                  refine xm 115 (pS v17_2) ?_
                  refine xm 116 (pI depth1) ?_
                  obtain ⟨c_34, h⟩ := gG h
                  refine xs 117 rfl (sf_add (a := depth1) (b := (1 : Int)) rfl rfl rfl c_34 ?_)
                  refine xm 118 (pI left2_2) ?_
                  obtain ⟨x_35, hx_36, h⟩ := bG h
                  refine xs 119 rfl (sf_call rfl rfl TT.enters_112 rfl (hself v17_2 (depth1 + (1 : Int)) left2_2 _ hx_36) ?_)
                  refine xm 114 (.d (.tuple [.agg (cItem (x_35.1)), .val (.int .i64 (x_35.2.1)), .val (.int .i64 (x_35.2.2.1)), .val (.int .i64 (x_35.2.2.2))])) ?_
                  refine xs 120 rfl (sf_extract rfl rfl rfl ?_)
                  refine xs 121 rfl (sf_extract rfl rfl rfl ?_)
                  refine xs 122 rfl (sf_extract rfl rfl rfl ?_)
                  refine xs 123 rfl (sf_extract rfl rfl rfl ?_)
                  refine xs 19 rfl (sf_alloc (l := [pB false, pS ([] : List UInt8), .full (([] : (List Item)).map eItem)]) rfl TT.zeroA_125 rfl rfl ?_)
                  refine XK.st none rfl rfl (sf_stV (l' := [pB ((x_35.1).fList), pS ((x_35.1).fS), .d (.slice (((x_35.1).fL).map eItem))]) rfl TT.tyA_125 rfl rfl rfl rfl rfl rfl (by simp) rfl ?_)
                  refine xa 20 (pI (x_35.2.1)) ?_
                  refine xa 21 (pI (x_35.2.2.1)) ?_
                  refine xz 22 (pI (x_35.2.2.2)) ?_
                  refine QW.seq ?_
                  refine QW.seq ?_
                  refine QW.view (s' := ⟨tab [(1, pI depth1), (6, .vptr 0 0), (10, .vptr 1 0), (13, pI v13_5), (14, pI v14_3), (17, pS v17_2), (18, .vptr 2 0), (19, .vptr 4 0), (20, pI (x_35.2.1)), (21, pI (x_35.2.2.1)), (22, pI (x_35.2.2.2))], tabH [.var [pB false, pS ([] : List UInt8), .full (([] : (List Item)).map eItem)], .var [pB false, pS ([] : List UInt8), .full (([] : (List Item)).map eItem)], .var [pB true, pS ([] : List UInt8), .own 3 (v18_2.map eItem)], .spare 3 v18_2.length, .var [pB ((x_35.1).fList), pS ((x_35.1).fS), .d (.slice (((x_35.1).fL).map eItem))]], 5, []⟩) (View.mk 5 [0, 1, 2, 3, 4] _ _ _ rfl rfl (by decide) (iC (iC (iC (iC (iC (iC (iC (iC (iC (iC (iC trivial))))))))))) (And.intro rfl (And.intro rfl (And.intro rfl (And.intro rfl (And.intro rfl trivial))))) rfl zL rfl) zL ?_
                  refine rG ?_
                  refine xm 124 (pI (x_35.2.2.2)) ?_
                  refine xs 125 rfl (sf_ne (a := (x_35.2.2.2)) (b := (0 : Int)) rfl rfl rfl ?_)
                  refine XK.nz ?_
                  refine QW.cond (t := (!decide ((x_35.2.2.2) = (0 : Int)))) rfl zL (fun hb_37 => ?_) (fun hb_37 => ?_)
                  · replace h := bGT h hb_37
                    refine sR ?_
                    refine XK.as (some 126) rfl rfl (sf_ldV (v := .agg [pB false, pS ([] : List UInt8), .full (([] : (List Item)).map eItem)]) rfl TT.tyA_125 rfl rfl ⟨⟨by simp, by simp⟩, rfl⟩ ⟨.d (.agg (cItem (⟨false, ([] : List UInt8), ([] : (List Item))⟩ : Item))), (Imp.toD rfl), ?_⟩)
                    refine xm 127 (pI (x_35.2.2.2)) ?_
                    refine XK.st none rfl rfl (sf_stV (l' := [pB false, pS ([] : List UInt8), .d (.slice (([] : (List Item)).map eItem))]) rfl TT.tyA_125 rfl rfl rfl rfl rfl rfl (by simp) rfl ?_)
                    refine xa 7 (pI (0)) ?_
                    refine xa 8 (pI (0)) ?_
                    refine xz 9 (pI (x_35.2.2.2)) ?_
                    refine QW.ret zL (thR (blR (thR (blR (thR ?_)))))
                    obtain rfl := sG h
                    exact Ends.more (.inr rfl) rfl (ps := [.agg [pB false, pS ([] : List UInt8), .d (.slice (([] : (List Item)).map eItem))], pI (0), pI (0), pI (x_35.2.2.2)]) (And.intro (ResIs.cell rfl rfl TT.tyA_125 ⟨⟨by simp, by simp⟩, rfl⟩) (And.intro (ResIs.tmp rfl) (And.intro (ResIs.tmp rfl) (And.intro (ResIs.tmp rfl) trivial)))) rfl rfl
                  · replace h := bGF h hb_37
                    refine QW.skip zL (nrm ?_)
                    refine sR ?_
                    refine xs 128 rfl (sf_fldV rfl TT.fldA_125_2 (by decide) rfl ?_)
                    refine xs 129 rfl (sf_ldV (v := .own 3 (v18_2.map eItem)) rfl TT.tyA_123 rfl rfl ⟨⟨by simp, by simp⟩, rfl⟩ ?_)
                    refine XK.as (some 130) rfl rfl (sf_ldV (v := .agg [pB ((x_35.1).fList), pS ((x_35.1).fS), .d (.slice (((x_35.1).fL).map eItem))]) rfl TT.tyA_125 rfl rfl ⟨⟨by simp, by simp⟩, rfl⟩ ⟨.d (.agg (cItem (x_35.1))), (Imp.toD rfl), ?_⟩)
                    refine xs 131 rfl (sf_row (en := eItem) (l := ([x_35.1] : List Item)) rfl TT.rowA_123 lay_Item (by first | rfl | (simp only [List.map_cons, List.map_nil, eItem_eq]; rfl)) rfl (by decide) (by simp [solids, partsP, evP, ofVal, PV.solid, putS_at, tab, unS, unT, unC, asCond, Value.oneCell']) ?_)
                    obtain ⟨c_38, h⟩ := gG h
                    refine xs 132 rfl (sf_appO (en := eItem) (l := v18_2) (l2 := ([x_35.1] : List Item)) rfl TT.rowA_123 TT.under_123 rfl lay_Item rfl rfl rfl c_38 (by decide) ?_)
                    refine xs 133 rfl (sf_fldV rfl TT.fldA_125_2 (by decide) rfl ?_)
                    refine XK.st none rfl rfl (sf_stV (l' := [pB true, pS ([] : List UInt8), .own 5 ((v18_2 ++ ([x_35.1] : List Item)).map eItem)]) rfl TT.tyA_123 rfl rfl rfl rfl rfl rfl (by simp) rfl ?_)
                    refine XK.nz ?_
                    refine sR ?_
                    refine xm 134 (pI (x_35.2.2.1)) ?_
                    refine xz 2 (pI (x_35.2.2.1)) ?_
                    refine rG ?_
                    refine xm 135 (pS v17_2) ?_
                    refine xm 136 (pI (x_35.2.1)) ?_
                    obtain ⟨c_39, h⟩ := gG h
                    refine xs 137 rfl (sf_subS (l := v17_2) (a := (x_35.2.1)) (b := (v17_2.length : Int)) rfl TT.under_9 rfl rfl rfl c_39 ?_)
                    refine xa 17 (pS (sub v17_2 (x_35.2.1) (v17_2.length : Int))) ?_
                    refine XK.nil (blN (nrm ?_))
                    exact ⟨k_32, by omega, ⟨tab [(1, pI depth1), (2, pI (x_35.2.2.1)), (6, .vptr 0 0), (10, .vptr 1 0), (13, pI v13_5), (14, pI v14_3), (17, pS (sub v17_2 (x_35.2.1) (v17_2.length : Int))), (18, .vptr 2 0)], tabH [.var [pB false, pS ([] : List UInt8), .full (([] : (List Item)).map eItem)], .var [pB false, pS ([] : List UInt8), .full (([] : (List Item)).map eItem)], .var [pB true, pS ([] : List UInt8), .own 3 ((v18_2 ++ ([x_35.1] : List Item)).map eItem)], .spare 3 (v18_2 ++ ([x_35.1] : List Item)).length], 4, []⟩, View.mk 4 [0, 1, 2, 5] _ _ _ rfl rfl (by decide) (iC (iC (iC (iC (iC (iC (iC (iC trivial)))))))) (And.intro rfl (And.intro rfl (And.intro rfl (And.intro rfl trivial)))) rfl zL rfl, x_35.2.2.1, v13_5, v14_3, (sub v17_2 (x_35.2.1) (v17_2.length : Int)), (v18_2 ++ ([x_35.1] : List Item)), by omega, jG h, rfl⟩
                · replace h := bGF h hb_33
                  refine QW.exit zL (thX (thX (exE (nrm ?_))))
                  refine sR ?_
                  refine xs 138 rfl (sf_ldV (v := .agg [pB true, pS ([] : List UInt8), .own 3 (v18_2.map eItem)]) rfl TT.tyA_125 rfl rfl ⟨⟨by simp, by simp⟩, rfl⟩ ?_)
                  refine xm 139 (pI v14_3) ?_
                  refine xm 140 (pI v13_5) ?_
                  obtain ⟨c_40, h⟩ := gG h
                  refine xs 141 rfl (sf_add (a := v14_3) (b := v13_5) rfl rfl rfl c_40 ?_)
                  refine xm 142 (pI left2_2) ?_
                  refine XK.st none rfl rfl (sf_stV (l' := [pB true, pS ([] : List UInt8), .own 3 (v18_2.map eItem)]) rfl TT.tyA_125 rfl rfl rfl rfl rfl rfl (by simp) rfl ?_)
                  refine xa 7 (pI (v14_3 + v13_5)) ?_
                  refine xa 8 (pI left2_2) ?_
                  refine xz 9 (pI (0)) ?_
                  refine QW.ret zL ?_
                  obtain rfl := sG h
                  exact Ends.more (.inr rfl) rfl (ps := [.agg [pB true, pS ([] : List UInt8), .own 3 (v18_2.map eItem)], pI (v14_3 + v13_5), pI left2_2, pI (0)]) (And.intro (ResIs.cell rfl rfl TT.tyA_125 ⟨⟨by simp, by simp⟩, rfl⟩) (And.intro (ResIs.tmp rfl) (And.intro (ResIs.tmp rfl) (And.intro (ResIs.tmp rfl) trivial)))) rfl rfl
noncomputable def rec_ref05_Read : Nat → (List UInt8) → Int → Int → Option (Item × Int × Int × Int)
  | 0 => fun _ _ _ => none
  | n + 1 => fun y0 y1 y2 => gs_ref05_Read (rec_ref05_Read n) y0 y1 y2
theorem simr_ref05_Read : ∀ (n : Nat) (y0 : (List UInt8)) (y1 : Int) (y2 : Int) (rr : (Item × Int × Int × Int)), rec_ref05_Read n y0 y1 y2 = some rr → Fun Try.prog 112 [.val (sV y0), .val (.int .i64 y1), .val (.int .i64 y2)] (.tuple [.agg (cItem (rr.1)), .val (.int .i64 (rr.2.1)), .val (.int .i64 (rr.2.2.1)), .val (.int .i64 (rr.2.2.2))])
  | 0, _, _, _, _, h => by cases h
  | n + 1, y0, y1, y2, rr, h => sims_ref05_Read (rec_ref05_Read n) (simr_ref05_Read n) y0 y1 y2 rr h
noncomputable def g_ref05_Read (y0 : (List UInt8)) (y1 : Int) (y2 : Int) : Option (Item × Int × Int × Int) := theR (fun n => rec_ref05_Read n y0 y1 y2)
theorem sim_ref05_Read (y0 : (List UInt8)) (y1 : Int) (y2 : Int) (rr : (Item × Int × Int × Int)) (h : g_ref05_Read y0 y1 y2 = some rr) : Fun Try.prog 112 [.val (sV y0), .val (.int .i64 y1), .val (.int .i64 y2)] (.tuple [.agg (cItem (rr.1)), .val (.int .i64 (rr.2.1)), .val (.int .i64 (rr.2.2.1)), .val (.int .i64 (rr.2.2.2))]) := by
  obtain ⟨n, hn⟩ := theR_get h
  exact simr_ref05_Read n y0 y1 y2 rr hn
inductive C_ref02_Pack where
  | S
  | L3 (v7_2 : (List UInt8)) (v8_2 : Int)
noncomputable def step_ref02_Pack (p0 : (List UInt8)) (leaf1 : Bool) : C_ref02_Pack → Option (C_ref02_Pack ⊕ (List UInt8))
  | .S =>
    (((bif leaf1 then
    some (32)
    else
    some (0)) : Option Int).bind fun (v5 : Int) =>
    (((bif (decide (((p0.length : Int).tmod (2 : Int)) = (1 : Int))) then
    gO (inI (v5 + (16 : Int))) (
    gO (0 ≤ (0 : Int) ∧ (0 : Int) < (p0.length : Int)) (
    gO (inI ((v5 + (16 : Int)) + ((idx p0 (0 : Int)).toNat : Int))) (
    some (((v5 + (16 : Int)) + ((idx p0 (0 : Int)).toNat : Int)), 1))))
    else
    some (v5, 0)) : Option (Int × Int)).bind fun (v5_2, v6) =>
    some (.inl (.L3 ([(u8I v5_2)] : List UInt8) v6))))
  | .L3 v7_2 v8_2 =>
    (bif (decide (v8_2 < (p0.length : Int))) then
    gO (0 ≤ v8_2 ∧ v8_2 < (p0.length : Int)) (
    gO (inI (v8_2 + (1 : Int))) (
    gO (0 ≤ (v8_2 + (1 : Int)) ∧ (v8_2 + (1 : Int)) < (p0.length : Int)) (
    gO (v7_2.length + ([(((16 : UInt8) * (idx p0 v8_2)) + (idx p0 (v8_2 + (1 : Int))))] : List UInt8).length ≤ 9223372036854775807) (
    gO (inI (v8_2 + (2 : Int))) (
    some (.inl (.L3 (v7_2 ++ ([(((16 : UInt8) * (idx p0 v8_2)) + (idx p0 (v8_2 + (1 : Int))))] : List UInt8)) (v8_2 + (2 : Int)))))))))
    else
    some (.inr v7_2))
noncomputable def g_ref02_Pack (p0 : (List UInt8)) (leaf1 : Bool) : Option (List UInt8) := theC (step_ref02_Pack p0 leaf1) .S
theorem sim_ref02_Pack (p0 : (List UInt8)) (leaf1 : Bool) (r : (List UInt8)) (h : g_ref02_Pack p0 leaf1 = some r) : Fun Try.prog 109 [.slice (p0.map byteD), .val (.bool leaf1)] (.val (sV r)) := by
  refine Fun.of_bodyQ Try.func109 rfl (by simp [Try.ntmps109]) ?_
  rw [Try.ntmps109, TT.res_109]
  refine QW.view (s' := ⟨tab [(0, .d (.slice (p0.map byteD))), (1, pB leaf1)], tabH [], 0, []⟩) (View.init (by rfl)) zL ?_
  replace h := theC_get h
  obtain ⟨_, h⟩ := h
  obtain ⟨k_0, rfl, h9⟩ := run_succ h; replace h := h9; clear h9; rw [step_ref02_Pack] at h
  refine sR ?_
  refine xz 4 (pS ([] : List UInt8)) ?_
  refine sR ?_
  refine xz 5 (pI (0)) ?_
  obtain ⟨v5, hq, h⟩ := bG h
  refine QW.seqI (fun s' => s' = ⟨tab [(0, .d (.slice (p0.map byteD))), (5, pI v5)], tabH [], 0, []⟩) ?_ ?_
  · replace h := hq; clear hq
    refine sR ?_
    refine xm 9 (pB leaf1) ?_
    refine XK.nz ?_
    refine QW.cond (t := leaf1) rfl zL (fun hb_1 => ?_) (fun hb_1 => ?_)
    · replace h := bT h hb_1
      refine rG ?_
      refine xz 5 (pI (32)) ?_
      obtain rfl := sO h
      exact ⟨⟨tab [(0, .d (.slice (p0.map byteD))), (5, pI (32))], tabH [], 0, []⟩, View.mk 0 [] _ _ _ rfl rfl (by decide) (iC (iC trivial)) trivial rfl zL rfl, rfl⟩
    · replace h := bF h hb_1
      refine QW.skip zL (nrm ?_)
      obtain rfl := sO h
      exact ⟨⟨tab [(0, .d (.slice (p0.map byteD))), (5, pI (0))], tabH [], 0, []⟩, View.mk 0 [] _ _ _ rfl rfl (by decide) (iC (iC trivial)) trivial rfl zL rfl, rfl⟩
  · rintro _ rfl
    refine sR ?_
    refine xz 6 (pI (0)) ?_
    obtain ⟨⟨v5_2, v6⟩, hq, h⟩ := bG h
    refine QW.seqI (fun s' => s' = ⟨tab [(0, .d (.slice (p0.map byteD))), (5, pI v5_2), (6, pI v6)], tabH [], 0, []⟩) ?_ ?_
    · replace h := hq; clear hq
      refine sR ?_
      refine xm 10 (.d (.slice (p0.map byteD))) ?_
      refine xs 11 rfl (sf_lenL (en := byteD) (l := p0) rfl TT.under_49 rfl ?_)
      refine xs 12 rfl (sf_rem (a := (p0.length : Int)) (b := (2 : Int)) rfl rfl rfl (by decide) ?_)
      refine xs 13 rfl (sf_eq (a := ((p0.length : Int).tmod (2 : Int))) (b := (1 : Int)) rfl rfl rfl ?_)
      refine XK.nz ?_
      refine QW.cond (t := (decide (((p0.length : Int).tmod (2 : Int)) = (1 : Int)))) rfl zL (fun hb_2 => ?_) (fun hb_2 => ?_)
      · replace h := bT h hb_2
        refine sR ?_
        refine xm 14 (pI v5) ?_
        obtain ⟨c_3, h⟩ := gO_get h
        refine xs 15 rfl (sf_add (a := v5) (b := (16 : Int)) rfl rfl rfl c_3 ?_)
        refine xm 16 (.d (.slice (p0.map byteD))) ?_
        obtain ⟨c_4, h⟩ := gO_get h
        refine xs 17 rfl (sf_idxA (l := p0) (i := (0 : Int)) rfl TT.slcA_49 lay_byte rfl rfl c_4 ?_)
        refine xs 18 rfl (sf_ldC (d := .val (.int .u8 ((idx p0 (0 : Int)).toNat : Int))) rfl TT.tyA_5 rfl (LdC.one) ?_)
        refine xs 19 rfl (sf_toI (n := ((idx p0 (0 : Int)).toNat : Int)) rfl TT.under_5 TT.under_3 rfl (inI_u8 _) ?_)
        obtain ⟨c_5, h⟩ := gO_get h
        refine xs 20 rfl (sf_add (a := (v5 + (16 : Int))) (b := ((idx p0 (0 : Int)).toNat : Int)) rfl rfl rfl c_5 ?_)
        refine xz 5 (pI ((v5 + (16 : Int)) + ((idx p0 (0 : Int)).toNat : Int))) ?_
        refine rG ?_
        refine xz 6 (pI (1)) ?_
        simp only [Option.some.injEq, Prod.mk.injEq] at h
        obtain ⟨rfl, rfl⟩ := h
        exact ⟨⟨tab [(0, .d (.slice (p0.map byteD))), (5, pI ((v5 + (16 : Int)) + ((idx p0 (0 : Int)).toNat : Int))), (6, pI (1))], tabH [], 0, []⟩, View.mk 0 [] _ _ _ rfl rfl (by decide) (iC (iC (iC trivial))) trivial rfl zL rfl, rfl⟩
      · replace h := bF h hb_2
        refine QW.skip zL (nrm ?_)
        simp only [Option.some.injEq, Prod.mk.injEq] at h
        obtain ⟨rfl, rfl⟩ := h
        exact ⟨⟨tab [(0, .d (.slice (p0.map byteD))), (5, pI v5), (6, pI (0))], tabH [], 0, []⟩, View.mk 0 [] _ _ _ rfl rfl (by decide) (iC (iC (iC trivial))) trivial rfl zL rfl, rfl⟩
    · rintro _ rfl
      refine sR ?_
      refine xm 21 (pI v5_2) ?_
      refine xs 22 rfl (sf_toU8 (n := v5_2) rfl TT.under_3 TT.under_5 rfl ?_)
      refine xs 23 rfl (sf_row (en := byteD) (l := ([(u8I v5_2)] : List UInt8)) rfl TT.rowA_49 lay_byte rfl rfl (by decide) (by simp [solids, partsP, evP, ofVal, PV.solid, putS_at, tab, unS, unT, unC, asCond, Value.oneCell']) ?_)
      refine xs 24 rfl (sf_b2s (l := ([(u8I v5_2)] : List UInt8)) rfl TT.under_49 TT.under_5 TT.under_9 rfl ?_)
      refine xz 7 (pS ([(u8I v5_2)] : List UInt8)) ?_
      refine QW.seq ?_
      refine sR ?_
      refine xm 25 (pI v6) ?_
      refine xz 8 (pI v6) ?_
      refine QW.block ?_
      refine QW.loop (fun k σ => ∃ v7_2 : (List UInt8), ∃ v8_2 : Int, k ≤ k_0 ∧ run (step_ref02_Pack p0 leaf1) k (.L3 v7_2 v8_2) = some r ∧ σ = ⟨tab [(0, .d (.slice (p0.map byteD))), (7, pS v7_2), (8, pI v8_2)], tabH [], 0, []⟩) k_0 zL ⟨⟨tab [(0, .d (.slice (p0.map byteD))), (7, pS ([(u8I v5_2)] : List UInt8)), (8, pI v6)], tabH [], 0, []⟩, View.mk 0 [] _ _ _ rfl rfl (by decide) (iC (iC (iC trivial))) trivial rfl zL rfl, ([(u8I v5_2)] : List UInt8), v6, Nat.le_refl _, jG h, rfl⟩ ?_
      rintro k_6s _ ⟨v7_2, v8_2, k_6h, h, rfl⟩
      obtain ⟨k_6, rfl, h9⟩ := run_succ h; replace h := h9; clear h9; rw [step_ref02_Pack] at h
      refine QW.seq ?_
      refine sR ?_
      refine xm 26 (pI v8_2) ?_
      refine xm 27 (.d (.slice (p0.map byteD))) ?_
      refine xs 28 rfl (sf_lenL (en := byteD) (l := p0) rfl TT.under_49 rfl ?_)
      refine xs 29 rfl (sf_lss (a := v8_2) (b := (p0.length : Int)) rfl rfl rfl ?_)
      refine XK.nz ?_
      refine QW.cond (t := (decide (v8_2 < (p0.length : Int)))) rfl zL (fun hb_7 => ?_) (fun hb_7 => ?_)
      · replace h := bGT h hb_7
        refine QW.skip zL (nrm ?_)
        refine QW.seq ?_
        refine QW.block ?_
        refine QW.region zL (PW.regQ (id := 12) mixedX (M := _) rfl (by kernel_rfl) ?_)
        refine RQ.st (some 32) rfl rfl (sf_move (v := pS v7_2) rfl rfl ⟨⟨rfl, rfl⟩, ?_⟩)
        refine RQ.st (some 33) rfl rfl (sf_move (v := .d (.slice (p0.map byteD))) rfl rfl ⟨⟨rfl, rfl⟩, ?_⟩)
        refine RQ.st (some 34) rfl rfl (sf_move (v := pI v8_2) rfl rfl ⟨⟨rfl, rfl⟩, ?_⟩)
        obtain ⟨c_8, h⟩ := gG h
        refine RQ.st (some 35) rfl rfl (sf_idxA (l := p0) (i := v8_2) rfl TT.slcA_49 lay_byte rfl rfl c_8 ⟨⟨rfl, rfl⟩, ?_⟩)
        refine RQ.st (some 36) rfl rfl (sf_ldC (d := .val (.int .u8 ((idx p0 v8_2).toNat : Int))) rfl TT.tyA_5 rfl (LdC.one) ⟨⟨rfl, rfl⟩, ?_⟩)
        refine RQ.st (some 37) rfl rfl (sf_u8mul (p := (16 : UInt8)) (q := (idx p0 v8_2)) rfl rfl rfl ⟨⟨rfl, rfl⟩, ?_⟩)
        refine RQ.st (some 38) rfl rfl (sf_move (v := .d (.slice (p0.map byteD))) rfl rfl ⟨⟨rfl, rfl⟩, ?_⟩)
        refine RQ.st (some 39) rfl rfl (sf_move (v := pI v8_2) rfl rfl ⟨⟨rfl, rfl⟩, ?_⟩)
        obtain ⟨c_9, h⟩ := gG h
        refine RQ.st (some 40) rfl rfl (sf_add (a := v8_2) (b := (1 : Int)) rfl rfl rfl c_9 ⟨⟨rfl, rfl⟩, ?_⟩)
        obtain ⟨c_10, h⟩ := gG h
        refine RQ.st (some 41) rfl rfl (sf_idxA (l := p0) (i := (v8_2 + (1 : Int))) rfl TT.slcA_49 lay_byte rfl rfl c_10 ⟨⟨rfl, rfl⟩, ?_⟩)
        refine RQ.st (some 42) rfl rfl (sf_ldC (d := .val (.int .u8 ((idx p0 (v8_2 + (1 : Int))).toNat : Int))) rfl TT.tyA_5 rfl (LdC.one) ⟨⟨rfl, rfl⟩, ?_⟩)
        refine RQ.st (some 43) rfl rfl (sf_u8add (p := ((16 : UInt8) * (idx p0 v8_2))) (q := (idx p0 (v8_2 + (1 : Int)))) rfl rfl rfl ⟨⟨rfl, rfl⟩, ?_⟩)
        refine RQ.st (some 44) rfl rfl (sf_row (en := byteD) (l := ([(((16 : UInt8) * (idx p0 v8_2)) + (idx p0 (v8_2 + (1 : Int))))] : List UInt8)) rfl TT.rowA_49 lay_byte rfl rfl (by decide) (by simp [solids, partsP, evP, ofVal, PV.solid, putS_at, tab, unS, unT, unC, asCond, Value.oneCell']) ⟨⟨rfl, rfl⟩, ?_⟩)
        refine RQ.st (some 45) rfl rfl (sf_b2s (l := ([(((16 : UInt8) * (idx p0 v8_2)) + (idx p0 (v8_2 + (1 : Int))))] : List UInt8)) rfl TT.under_49 TT.under_5 TT.under_9 rfl ⟨⟨rfl, rfl⟩, ?_⟩)
        obtain ⟨c_11, h⟩ := gG h
        refine RQ.st (some 46) rfl rfl (sf_cat (a := v7_2) (b := ([(((16 : UInt8) * (idx p0 v8_2)) + (idx p0 (v8_2 + (1 : Int))))] : List UInt8)) rfl rfl rfl c_11 ⟨⟨rfl, rfl⟩, ?_⟩)
        refine RQ.st (some 7) rfl rfl (sf_assign (v := pS (v7_2 ++ ([(((16 : UInt8) * (idx p0 v8_2)) + (idx p0 (v8_2 + (1 : Int))))] : List UInt8))) rfl rfl ⟨⟨rfl, rfl⟩, ?_⟩)
        refine RQ.nil (blN (nrm ?_))
        refine QW.view (s' := ⟨tab [(0, .d (.slice (p0.map byteD))), (7, pS (v7_2 ++ ([(((16 : UInt8) * (idx p0 v8_2)) + (idx p0 (v8_2 + (1 : Int))))] : List UInt8))), (8, pI v8_2)], tabH [], 0, []⟩) (View.mk 0 [] _ _ _ rfl rfl (by decide) (iC (iC (iC trivial))) trivial rfl zL rfl) zL ?_
        refine rG ?_
        refine xm 30 (pI v8_2) ?_
        obtain ⟨c_12, h⟩ := gG h
        refine xs 31 rfl (sf_add (a := v8_2) (b := (2 : Int)) rfl rfl rfl c_12 ?_)
        refine xz 8 (pI (v8_2 + (2 : Int))) ?_
        exact ⟨k_6, by omega, ⟨tab [(0, .d (.slice (p0.map byteD))), (7, pS (v7_2 ++ ([(((16 : UInt8) * (idx p0 v8_2)) + (idx p0 (v8_2 + (1 : Int))))] : List UInt8))), (8, pI (v8_2 + (2 : Int)))], tabH [], 0, []⟩, View.mk 0 [] _ _ _ rfl rfl (by decide) (iC (iC (iC trivial))) trivial rfl zL rfl, (v7_2 ++ ([(((16 : UInt8) * (idx p0 v8_2)) + (idx p0 (v8_2 + (1 : Int))))] : List UInt8)), (v8_2 + (2 : Int)), by omega, jG h, rfl⟩
      · replace h := bGF h hb_7
        refine QW.exit zL (thX (thX (exE (nrm ?_))))
        refine sR ?_
        refine xm 47 (pS v7_2) ?_
        refine xz 4 (pS v7_2) ?_
        refine QW.ret zL ?_
        obtain rfl := sG h
        exact Ends.one (.inr rfl) rfl (ResIs.tmp rfl) rfl rfl
inductive C_ref06_path where
  | S
  | L2 (v5_3 : (List UInt8)) (v6 : Int)
noncomputable def step_ref06_path (s0 : (List UInt8)) : C_ref06_path → Option (C_ref06_path ⊕ ((List UInt8) × Bool × Bool))
  | .S =>
    gO ((s0 == ([] : List UInt8)) = false → 0 ≤ (0 : Int) ∧ (0 : Int) < (s0.length : Int)) (
    (bif ((s0 == ([] : List UInt8)) || (decide ((64 : Int) ≤ ((idx s0 (0 : Int)).toNat : Int)))) then
    some (.inr (([] : (List UInt8)), false, false))
    else
    ((gO (0 ≤ (0 : Int) ∧ (0 : Int) < (s0.length : Int)) (
    (bif (decide (((((idx s0 (0 : Int)) / (16 : UInt8)) % (2 : UInt8)).toNat : Int) = (1 : Int))) then
    gO (0 ≤ (0 : Int) ∧ (0 : Int) < (s0.length : Int)) (
    gO ((([] : (List UInt8)).length + ([((idx s0 (0 : Int)) % (16 : UInt8))] : List UInt8).length) * 1 ≤ 140737488355328) (
    some (([] : (List UInt8)) ++ ([((idx s0 (0 : Int)) % (16 : UInt8))] : List UInt8))))
    else
    some ([] : (List UInt8)))) : Option (List UInt8)).bind fun (v5 : (List UInt8)) =>
    some (.inl (.L2 v5 (1))))))
  | .L2 v5_3 v6 =>
    (bif ((decide (v6 < (s0.length : Int))) && (decide (v6 < (40 : Int)))) then
    gO (0 ≤ v6 ∧ v6 < (s0.length : Int)) (
    gO (0 ≤ v6 ∧ v6 < (s0.length : Int)) (
    gO ((v5_3.length + ([((idx s0 v6) / (16 : UInt8)), ((idx s0 v6) % (16 : UInt8))] : List UInt8).length) * 1 ≤ 140737488355328) (
    gO (inI (v6 + (1 : Int))) (
    some (.inl (.L2 (v5_3 ++ ([((idx s0 v6) / (16 : UInt8)), ((idx s0 v6) % (16 : UInt8))] : List UInt8)) (v6 + (1 : Int))))))))
    else
    gO (0 ≤ (0 : Int) ∧ (0 : Int) < (s0.length : Int)) (
    ((bif ((decide ((v5_3.length : Int) ≤ (64 : Int))) == true) then g_ref02_Pack v5_3 (decide ((32 : Int) ≤ ((idx s0 (0 : Int)).toNat : Int))) else some default).bind fun (x_14 : (List UInt8)) =>
    some (.inr (v5_3, (decide ((32 : Int) ≤ ((idx s0 (0 : Int)).toNat : Int))), ((decide ((v5_3.length : Int) ≤ (64 : Int))) && (x_14 == s0)))))))
noncomputable def g_ref06_path (s0 : (List UInt8)) : Option ((List UInt8) × Bool × Bool) := theC (step_ref06_path s0) .S
theorem sim_ref06_path (s0 : (List UInt8)) (r : ((List UInt8) × Bool × Bool)) (h : g_ref06_path s0 = some r) : Fun Try.prog 113 [.val (sV s0)] (.tuple [.slice ((r.1).map byteD), .val (.bool (r.2.1)), .val (.bool (r.2.2))]) := by
  refine Fun.of_bodyQ Try.func113 rfl (by simp [Try.ntmps113]) ?_
  rw [Try.ntmps113, TT.res_113]
  refine QW.view (s' := ⟨tab [(0, pS s0)], tabH [], 0, []⟩) (View.init (by rfl)) zL ?_
  replace h := theC_get h
  obtain ⟨_, h⟩ := h
  obtain ⟨k_0, rfl, h9⟩ := run_succ h; replace h := h9; clear h9; rw [step_ref06_path] at h
  refine sR ?_
  refine xa 2 (.full (([] : (List UInt8)).map byteD)) ?_
  refine xa 3 (pB false) ?_
  refine xz 4 (pB false) ?_
  refine QW.seq ?_
  refine sR ?_
  refine xm 8 (pS s0) ?_
  refine xs 9 rfl (sf_seq (a := s0) (b := ([] : List UInt8)) rfl rfl rfl ?_)
  refine xm 10 (pB (s0 == ([] : List UInt8))) ?_
  refine xg 11 (pS s0) rfl rfl (fun hg => sf_move (v := pS s0) rfl rfl g3) ?_
  obtain ⟨c_1, h⟩ := gG h
  refine xg 12 (.d (.val (.int .u8 ((idx s0 (0 : Int)).toNat : Int)))) rfl rfl (fun hg => sf_idxS (l := s0) (i := (0 : Int)) rfl TT.under_9 TT.arrA_9 rfl rfl (c_1 (eqB hg)) g3) ?_
  refine xg 13 (pB (decide ((64 : Int) ≤ ((idx s0 (0 : Int)).toNat : Int)))) rfl rfl (fun hg => sf_geq (a := ((idx s0 (0 : Int)).toNat : Int)) (b := (64 : Int)) rfl rfl rfl g3) ?_
  refine xs 14 rfl (sf_pickO rfl rfl rfl rfl (fun _ => rfl) (fun hb => by rw [hb]; rfl) ?_)
  refine XK.nz ?_
  refine QW.cond (t := ((s0 == ([] : List UInt8)) || (decide ((64 : Int) ≤ ((idx s0 (0 : Int)).toNat : Int))))) rfl zL (fun hb_2 => ?_) (fun hb_2 => ?_)
  · replace h := bGT h hb_2
    refine sR ?_
    refine xa 2 (.full (([] : (List UInt8)).map byteD)) ?_
    refine xa 3 (pB false) ?_
    refine xz 4 (pB false) ?_
    refine QW.ret zL (thR ?_)
    obtain rfl := sG h
    exact Ends.more (.inr rfl) rfl (ps := [.full (([] : (List UInt8)).map byteD), pB false, pB false]) (And.intro (ResIs.tmp rfl) (And.intro (ResIs.tmp rfl) (And.intro (ResIs.tmp rfl) trivial))) rfl rfl
  · replace h := bGF h hb_2
    refine QW.skip zL (nrm ?_)
    refine sR ?_
    refine xz 5 (.full (([] : (List UInt8)).map byteD)) ?_
    obtain ⟨v5, hq, h⟩ := bG h
    refine QW.seqI (fun s' => s' = ⟨tab [(0, pS s0), (5, .own 0 (v5.map byteD))], tabH [.spare 1 v5.length], 1, []⟩) ?_ ?_
    · replace h := hq; clear hq
      refine sR ?_
      refine xm 15 (pS s0) ?_
      obtain ⟨c_3, h⟩ := gO_get h
      refine xs 16 rfl (sf_idxS (l := s0) (i := (0 : Int)) rfl TT.under_9 TT.arrA_9 rfl rfl c_3 ?_)
      refine xs 17 rfl (sf_u8quo (p := (idx s0 (0 : Int))) (q := (16 : UInt8)) rfl rfl rfl (by decide) ?_)
      refine xs 18 rfl (sf_u8rem (p := ((idx s0 (0 : Int)) / (16 : UInt8))) (q := (2 : UInt8)) rfl rfl rfl (by decide) ?_)
      refine xs 19 rfl (sf_eq (a := ((((idx s0 (0 : Int)) / (16 : UInt8)) % (2 : UInt8)).toNat : Int)) (b := (1 : Int)) rfl rfl rfl ?_)
      refine XK.nz ?_
      refine QW.cond (t := (decide (((((idx s0 (0 : Int)) / (16 : UInt8)) % (2 : UInt8)).toNat : Int) = (1 : Int)))) rfl zL (fun hb_4 => ?_) (fun hb_4 => ?_)
      · replace h := bT h hb_4
        refine rG ?_
        refine xm 20 (.full (([] : (List UInt8)).map byteD)) ?_
        refine xm 21 (pS s0) ?_
        obtain ⟨c_5, h⟩ := gO_get h
        refine xs 22 rfl (sf_idxS (l := s0) (i := (0 : Int)) rfl TT.under_9 TT.arrA_9 rfl rfl c_5 ?_)
        refine xs 23 rfl (sf_u8rem (p := (idx s0 (0 : Int))) (q := (16 : UInt8)) rfl rfl rfl (by decide) ?_)
        refine xs 24 rfl (sf_row (en := byteD) (l := ([((idx s0 (0 : Int)) % (16 : UInt8))] : List UInt8)) rfl TT.rowA_49 lay_byte rfl rfl (by decide) (by simp [solids, partsP, evP, ofVal, PV.solid, putS_at, tab, unS, unT, unC, asCond, Value.oneCell']) ?_)
        obtain ⟨c_6, h⟩ := gO_get h
        refine xs 25 rfl (sf_appF (en := byteD) (l := ([] : (List UInt8))) (l2 := ([((idx s0 (0 : Int)) % (16 : UInt8))] : List UInt8)) rfl TT.rowA_49 TT.under_49 rfl lay_byte rfl rfl ⟨c_6, fun _ => rfl⟩ (by decide) ?_)
        refine xz 5 (.own 0 ((([] : (List UInt8)) ++ ([((idx s0 (0 : Int)) % (16 : UInt8))] : List UInt8)).map byteD)) ?_
        obtain rfl := sO h
        exact ⟨⟨tab [(0, pS s0), (5, .own 0 ((([] : (List UInt8)) ++ ([((idx s0 (0 : Int)) % (16 : UInt8))] : List UInt8)).map byteD))], tabH [.spare 1 (([] : (List UInt8)) ++ ([((idx s0 (0 : Int)) % (16 : UInt8))] : List UInt8)).length], 1, []⟩, View.mk 1 [0] _ _ _ rfl rfl (by decide) (iC (iC trivial)) (And.intro rfl trivial) rfl zL rfl, rfl⟩
      · replace h := bF h hb_4
        refine QW.skip zL (nrm ?_)
        obtain rfl := sO h
        exact ⟨⟨tab [(0, pS s0), (5, .own 0 (([] : (List UInt8)).map byteD))], tabH [.spare 1 ([] : (List UInt8)).length], 1, []⟩, View.trans (View.buf 5 1 rfl zL) (View.mk 1 [0] _ _ _ rfl rfl (by decide) (iC (iC trivial)) (And.intro rfl trivial) rfl zL rfl), rfl⟩
    · rintro _ rfl
      refine QW.seq ?_
      refine sR ?_
      refine xz 6 (pI (1)) ?_
      refine QW.block ?_
      refine QW.loop (fun k σ => ∃ v5_3 : (List UInt8), ∃ v6 : Int, k ≤ k_0 ∧ run (step_ref06_path s0) k (.L2 v5_3 v6) = some r ∧ σ = ⟨tab [(0, pS s0), (5, .own 0 (v5_3.map byteD)), (6, pI v6)], tabH [.spare 1 v5_3.length], 1, []⟩) k_0 zL ⟨⟨tab [(0, pS s0), (5, .own 0 (v5.map byteD)), (6, pI (1))], tabH [.spare 1 v5.length], 1, []⟩, View.mk 1 [0] _ _ _ rfl rfl (by decide) (iC (iC (iC trivial))) (And.intro rfl trivial) rfl zL rfl, v5, 1, Nat.le_refl _, jG h, rfl⟩ ?_
      rintro k_7s _ ⟨v5_3, v6, k_7h, h, rfl⟩
      obtain ⟨k_7, rfl, h9⟩ := run_succ h; replace h := h9; clear h9; rw [step_ref06_path] at h
      refine QW.seq ?_
      refine sR ?_
      refine xm 26 (pI v6) ?_
      refine xm 27 (pS s0) ?_
      refine xs 28 rfl (sf_lenS (l := s0) rfl TT.under_9 rfl ?_)
      refine xs 29 rfl (sf_lss (a := v6) (b := (s0.length : Int)) rfl rfl rfl ?_)
      refine xm 30 (pB (decide (v6 < (s0.length : Int)))) ?_
      refine xg 31 (pI v6) rfl rfl (fun hg => sf_move (v := pI v6) rfl rfl g3) ?_
      refine xg 32 (pB (decide (v6 < (40 : Int)))) rfl rfl (fun hg => sf_lss (a := v6) (b := (40 : Int)) rfl rfl rfl g3) ?_
      refine xs 33 rfl (sf_pickA rfl rfl rfl rfl (fun hb => by rw [hb]; rfl) (fun _ => rfl) ?_)
      refine XK.nz ?_
      refine QW.cond (t := ((decide (v6 < (s0.length : Int))) && (decide (v6 < (40 : Int))))) rfl zL (fun hb_8 => ?_) (fun hb_8 => ?_)
      · replace h := bGT h hb_8
        refine QW.skip zL (nrm ?_)
        refine QW.seq ?_
        refine QW.block ?_
        refine QW.region zL (PW.regK (id := 9) mixedX (M := _) rfl (by kernel_rfl) ?_)
        refine RK.st (some 36) rfl rfl (sf_move (v := .own 0 (v5_3.map byteD)) rfl rfl ?_)
        refine RK.st (some 37) rfl rfl (sf_move (v := pS s0) rfl rfl ?_)
        refine RK.st (some 38) rfl rfl (sf_move (v := pI v6) rfl rfl ?_)
        obtain ⟨c_9, h⟩ := gG h
        refine RK.st (some 39) rfl rfl (sf_idxS (l := s0) (i := v6) rfl TT.under_9 TT.arrA_9 rfl rfl c_9 ?_)
        refine RK.st (some 40) rfl rfl (sf_u8quo (p := (idx s0 v6)) (q := (16 : UInt8)) rfl rfl rfl (by decide) ?_)
        refine RK.st (some 41) rfl rfl (sf_move (v := pS s0) rfl rfl ?_)
        refine RK.st (some 42) rfl rfl (sf_move (v := pI v6) rfl rfl ?_)
        obtain ⟨c_10, h⟩ := gG h
        refine RK.st (some 43) rfl rfl (sf_idxS (l := s0) (i := v6) rfl TT.under_9 TT.arrA_9 rfl rfl c_10 ?_)
        refine RK.st (some 44) rfl rfl (sf_u8rem (p := (idx s0 v6)) (q := (16 : UInt8)) rfl rfl rfl (by decide) ?_)
        refine RK.st (some 45) rfl rfl (sf_row (en := byteD) (l := ([((idx s0 v6) / (16 : UInt8)), ((idx s0 v6) % (16 : UInt8))] : List UInt8)) rfl TT.rowA_49 lay_byte rfl rfl (by decide) (by simp [solids, partsP, evP, ofVal, PV.solid, putS_at, tab, unS, unT, unC, asCond, Value.oneCell']) ?_)
        obtain ⟨c_11, h⟩ := gG h
        refine RK.st (some 46) rfl rfl (sf_appO (en := byteD) (l := v5_3) (l2 := ([((idx s0 v6) / (16 : UInt8)), ((idx s0 v6) % (16 : UInt8))] : List UInt8)) rfl TT.rowA_49 TT.under_49 rfl lay_byte rfl rfl rfl c_11 (by decide) ?_)
        refine RK.st (some 5) rfl rfl (sf_assign (v := .own 1 ((v5_3 ++ ([((idx s0 v6) / (16 : UInt8)), ((idx s0 v6) % (16 : UInt8))] : List UInt8)).map byteD)) rfl rfl ?_)
        refine RK.nil ⟨RecsOK.last 10 (by simp) (by simp) (by rfl), (blN (nrm ?_))⟩
        refine rG ?_
        refine xm 34 (pI v6) ?_
        obtain ⟨c_12, h⟩ := gG h
        refine xs 35 rfl (sf_add (a := v6) (b := (1 : Int)) rfl rfl rfl c_12 ?_)
        refine xz 6 (pI (v6 + (1 : Int))) ?_
        exact ⟨k_7, by omega, ⟨tab [(0, pS s0), (5, .own 0 ((v5_3 ++ ([((idx s0 v6) / (16 : UInt8)), ((idx s0 v6) % (16 : UInt8))] : List UInt8)).map byteD)), (6, pI (v6 + (1 : Int)))], tabH [.spare 1 (v5_3 ++ ([((idx s0 v6) / (16 : UInt8)), ((idx s0 v6) % (16 : UInt8))] : List UInt8)).length], 1, []⟩, View.mk 1 [1] _ _ _ rfl rfl (by decide) (iC (iC (iC trivial))) (And.intro rfl trivial) rfl zL rfl, (v5_3 ++ ([((idx s0 v6) / (16 : UInt8)), ((idx s0 v6) % (16 : UInt8))] : List UInt8)), (v6 + (1 : Int)), by omega, jG h, rfl⟩
      · replace h := bGF h hb_8
        refine QW.exit zL (thX (thX (exE (nrm ?_))))
        refine sR ?_
        refine xm 47 (pS s0) ?_
        obtain ⟨c_13, h⟩ := gG h
        refine xs 48 rfl (sf_idxS (l := s0) (i := (0 : Int)) rfl TT.under_9 TT.arrA_9 rfl rfl c_13 ?_)
        refine xs 49 rfl (sf_geq (a := ((idx s0 (0 : Int)).toNat : Int)) (b := (32 : Int)) rfl rfl rfl ?_)
        refine xz 7 (pB (decide ((32 : Int) ≤ ((idx s0 (0 : Int)).toNat : Int)))) ?_
        refine sR ?_
        refine xm 50 (.own 0 (v5_3.map byteD)) ?_
        refine xm 51 (pB (decide ((32 : Int) ≤ ((idx s0 (0 : Int)).toNat : Int)))) ?_
        refine xm 52 (.own 0 (v5_3.map byteD)) ?_
        refine xs 53 rfl (sf_lenL (en := byteD) (l := v5_3) rfl TT.under_49 rfl ?_)
        refine xs 54 rfl (sf_leq (a := (v5_3.length : Int)) (b := (64 : Int)) rfl rfl rfl ?_)
        refine xm 55 (pB (decide ((v5_3.length : Int) ≤ (64 : Int)))) ?_
        refine xg 56 (.own 0 (v5_3.map byteD)) rfl rfl (fun hg => sf_move (v := .own 0 (v5_3.map byteD)) rfl rfl g3) ?_
        refine xg 57 (pB (decide ((32 : Int) ≤ ((idx s0 (0 : Int)).toNat : Int)))) rfl rfl (fun hg => sf_move (v := pB (decide ((32 : Int) ≤ ((idx s0 (0 : Int)).toNat : Int)))) rfl rfl g3) ?_
        obtain ⟨x_14, hx_15, h⟩ := bG h
        refine xg 58 (pS x_14) rfl rfl (fun hg => sf_call rfl rfl TT.enters_109 rfl (sim_ref02_Pack v5_3 (decide ((32 : Int) ≤ ((idx s0 (0 : Int)).toNat : Int))) _ (bT hx_15 hg)) g3) ?_
        refine xg 59 (pS s0) rfl rfl (fun hg => sf_move (v := pS s0) rfl rfl g3) ?_
        refine xg 60 (pB (x_14 == s0)) rfl rfl (fun hg => sf_seq (a := x_14) (b := s0) rfl rfl rfl g3) ?_
        refine xs 61 rfl (sf_pickA rfl rfl rfl rfl (fun hb => by rw [hb]; rfl) (fun _ => rfl) ?_)
        refine xa 2 (.own 0 (v5_3.map byteD)) ?_
        refine xa 3 (pB (decide ((32 : Int) ≤ ((idx s0 (0 : Int)).toNat : Int)))) ?_
        refine xz 4 (pB ((decide ((v5_3.length : Int) ≤ (64 : Int))) && (x_14 == s0))) ?_
        refine QW.ret zL ?_
        obtain rfl := sG h
        exact Ends.more (.inr rfl) rfl (ps := [.own 0 (v5_3.map byteD), pB (decide ((32 : Int) ≤ ((idx s0 (0 : Int)).toNat : Int))), pB ((decide ((v5_3.length : Int) ≤ (64 : Int))) && (x_14 == s0))]) (And.intro (ResIs.tmp rfl) (And.intro (ResIs.tmp rfl) (And.intro (ResIs.tmp rfl) trivial))) rfl rfl
inductive C_ref02_Right where
  | S
  | L1 (v3 : Int)
noncomputable def step_ref02_Right (p0 : (List UInt8)) : C_ref02_Right → Option (C_ref02_Right ⊕ Bool)
  | .S =>
    some (.inl (.L1 (0)))
  | .L1 v3 =>
    (bif (decide (v3 < (p0.length : Int))) then
    gO (0 ≤ v3 ∧ v3 < (p0.length : Int)) (
    (bif (decide ((16 : Int) ≤ ((idx p0 v3).toNat : Int))) then
    some (.inr false)
    else
    gO (inI (v3 + (1 : Int))) (
    some (.inl (.L1 (v3 + (1 : Int)))))))
    else
    some (.inr true))
noncomputable def g_ref02_Right (p0 : (List UInt8)) : Option Bool := theC (step_ref02_Right p0) .S
theorem sim_ref02_Right (p0 : (List UInt8)) (r : Bool) (h : g_ref02_Right p0 = some r) : Fun Try.prog 99 [.slice (p0.map byteD)] (.val (.bool r)) := by
  refine Fun.of_bodyQ Try.func99 rfl (by simp [Try.ntmps99]) ?_
  rw [Try.ntmps99, TT.res_99]
  refine QW.view (s' := ⟨tab [(0, .d (.slice (p0.map byteD)))], tabH [], 0, []⟩) (View.init (by rfl)) zL ?_
  replace h := theC_get h
  obtain ⟨_, h⟩ := h
  obtain ⟨k_0, rfl, h9⟩ := run_succ h; replace h := h9; clear h9; rw [step_ref02_Right] at h
  refine sR ?_
  refine xz 2 (pB false) ?_
  refine QW.seq ?_
  refine sR ?_
  refine xz 3 (pI (0)) ?_
  refine QW.block ?_
  refine QW.loop (fun k σ => ∃ v3 : Int, k ≤ k_0 ∧ run (step_ref02_Right p0) k (.L1 v3) = some r ∧ σ = ⟨tab [(0, .d (.slice (p0.map byteD))), (3, pI v3)], tabH [], 0, []⟩) k_0 zL ⟨⟨tab [(0, .d (.slice (p0.map byteD))), (3, pI (0))], tabH [], 0, []⟩, View.mk 0 [] _ _ _ rfl rfl (by decide) (iC (iC trivial)) trivial rfl zL rfl, 0, Nat.le_refl _, jG h, rfl⟩ ?_
  rintro k_1s _ ⟨v3, k_1h, h, rfl⟩
  obtain ⟨k_1, rfl, h9⟩ := run_succ h; replace h := h9; clear h9; rw [step_ref02_Right] at h
  refine QW.seq ?_
  refine sR ?_
  refine xm 4 (pI v3) ?_
  refine xm 5 (.d (.slice (p0.map byteD))) ?_
  refine xs 6 rfl (sf_lenL (en := byteD) (l := p0) rfl TT.under_49 rfl ?_)
  refine xs 7 rfl (sf_lss (a := v3) (b := (p0.length : Int)) rfl rfl rfl ?_)
  refine XK.nz ?_
  refine QW.cond (t := (decide (v3 < (p0.length : Int)))) rfl zL (fun hb_2 => ?_) (fun hb_2 => ?_)
  · replace h := bGT h hb_2
    refine QW.skip zL (nrm ?_)
    refine QW.seq ?_
    refine QW.block ?_
    refine sR ?_
    refine xm 10 (.d (.slice (p0.map byteD))) ?_
    refine xm 11 (pI v3) ?_
    obtain ⟨c_3, h⟩ := gG h
    refine xs 12 rfl (sf_idxA (l := p0) (i := v3) rfl TT.slcA_49 lay_byte rfl rfl c_3 ?_)
    refine xs 13 rfl (sf_ldC (d := .val (.int .u8 ((idx p0 v3).toNat : Int))) rfl TT.tyA_5 rfl (LdC.one) ?_)
    refine xs 14 rfl (sf_geq (a := ((idx p0 v3).toNat : Int)) (b := (16 : Int)) rfl rfl rfl ?_)
    refine XK.nz ?_
    refine QW.cond (t := (decide ((16 : Int) ≤ ((idx p0 v3).toNat : Int)))) rfl zL (fun hb_4 => ?_) (fun hb_4 => ?_)
    · replace h := bGT h hb_4
      refine sR ?_
      refine xz 2 (pB false) ?_
      refine QW.ret zL (blR (thR (thR (blR (thR ?_)))))
      obtain rfl := sG h
      exact Ends.one (.inr rfl) rfl (ResIs.tmp rfl) rfl rfl
    · replace h := bGF h hb_4
      refine QW.skip zL (blN (nrm ?_))
      refine rG ?_
      refine xm 8 (pI v3) ?_
      obtain ⟨c_5, h⟩ := gG h
      refine xs 9 rfl (sf_add (a := v3) (b := (1 : Int)) rfl rfl rfl c_5 ?_)
      refine xz 3 (pI (v3 + (1 : Int))) ?_
      exact ⟨k_1, by omega, ⟨tab [(0, .d (.slice (p0.map byteD))), (3, pI (v3 + (1 : Int)))], tabH [], 0, []⟩, View.mk 0 [] _ _ _ rfl rfl (by decide) (iC (iC trivial)) trivial rfl zL rfl, (v3 + (1 : Int)), by omega, jG h, rfl⟩
  · replace h := bGF h hb_2
    refine QW.exit zL (thX (thX (exE (nrm ?_))))
    refine sR ?_
    refine xz 2 (pB true) ?_
    refine QW.ret zL ?_
    obtain rfl := sG h
    exact Ends.one (.inr rfl) rfl (ResIs.tmp rfl) rfl rfl
inductive C_ref06_kids where
  | S
  | L1 (v3_2 : Int) (v4 : Int)
noncomputable def step_ref06_kids (n0 : Node) : C_ref06_kids → Option (C_ref06_kids ⊕ Int)
  | .S =>
    some (.inl (.L1 (0) (0)))
  | .L1 v3_2 v4 =>
    (bif (decide (v4 < (16 : Int))) then
    ((gO (0 ≤ v4 ∧ v4 < ((16 : Nat) : Int)) (
    (bif (!((idx (n0.fKids).1 v4) == ([] : List UInt8))) then
    gO (inI (v3_2 + (1 : Int))) (
    some (v3_2 + (1 : Int)))
    else
    some v3_2)) : Option Int).bind fun (v3_4 : Int) =>
    gO (inI (v4 + (1 : Int))) (
    some (.inl (.L1 v3_4 (v4 + (1 : Int))))))
    else
    some (.inr v3_2))
noncomputable def g_ref06_kids (n0 : Node) : Option Int := theC (step_ref06_kids n0) .S
theorem sim_ref06_kids (n0 : Node) (r : Int) (h : g_ref06_kids n0 = some r) : Fun Try.prog 100 [.agg (cNode n0)] (.val (.int .i64 r)) := by
  refine Fun.of_bodyQ Try.func100 rfl (by simp [Try.ntmps100]) ?_
  rw [Try.ntmps100, TT.res_100]
  refine QW.view (s' := ⟨tab [(0, .d (.agg (cNode n0)))], tabH [], 0, []⟩) (View.init (by rfl)) zL ?_
  replace h := theC_get h
  obtain ⟨_, h⟩ := h
  obtain ⟨k_0, rfl, h9⟩ := run_succ h; replace h := h9; clear h9; rw [step_ref06_kids] at h
  refine sR ?_
  refine XK.fz (some 1) rfl rfl (sf_boxF (ds := cNode n0) rfl rfl rfl rfl toDs_map ?_)
  refine xz 2 (pI (0)) ?_
  refine sR ?_
  refine xz 3 (pI (0)) ?_
  refine QW.seq ?_
  refine sR ?_
  refine xz 4 (pI (0)) ?_
  refine QW.block ?_
  refine QW.loop (fun k σ => ∃ v3_2 : Int, ∃ v4 : Int, k ≤ k_0 ∧ run (step_ref06_kids n0) k (.L1 v3_2 v4) = some r ∧ σ = ⟨tab [(1, .d (.cptr (cNode n0))), (3, pI v3_2), (4, pI v4)], tabH [], 0, []⟩) k_0 zL ⟨⟨tab [(1, .d (.cptr (cNode n0))), (3, pI (0)), (4, pI (0))], tabH [], 0, []⟩, View.mk 0 [] _ _ _ rfl rfl (by decide) (iC (iC (iC trivial))) trivial rfl zL rfl, 0, 0, Nat.le_refl _, jG h, rfl⟩ ?_
  rintro k_1s _ ⟨v3_2, v4, k_1h, h, rfl⟩
  obtain ⟨k_1, rfl, h9⟩ := run_succ h; replace h := h9; clear h9; rw [step_ref06_kids] at h
  refine QW.seq ?_
  refine sR ?_
  refine xm 5 (pI v4) ?_
  refine xs 6 rfl (sf_lss (a := v4) (b := (16 : Int)) rfl rfl rfl ?_)
  refine XK.nz ?_
  refine QW.cond (t := (decide (v4 < (16 : Int)))) rfl zL (fun hb_2 => ?_) (fun hb_2 => ?_)
  · replace h := bGT h hb_2
    refine QW.skip zL (nrm ?_)
    obtain ⟨v3_4, hq, h⟩ := bG h
    refine QW.seqI (fun s' => s' = ⟨tab [(1, .d (.cptr (cNode n0))), (3, pI v3_4), (4, pI v4)], tabH [], 0, []⟩) ?_ ?_
    · replace h := hq; clear hq
      refine QW.block ?_
      refine sR ?_
      refine xm 9 (pI v4) ?_
      refine xs 10 rfl (sf_fldC rfl TT.fldA_52_3 (by decide) rfl ?_)
      obtain ⟨c_3, h⟩ := gO_get h
      refine xs 11 rfl (sf_idxC (i := v4) rfl TT.slcA_50 TT.arrA_50 rfl rfl c_3 ?_)
      refine xs 12 rfl (sf_ldC (d := .val (sV (idx (n0.fKids).1 v4))) rfl TT.tyA_9 rfl (ld_arr (pre_Node_3 _) c_3) ?_)
      refine xs 13 rfl (sf_sne (a := (idx (n0.fKids).1 v4)) (b := ([] : List UInt8)) rfl rfl rfl ?_)
      refine XK.nz ?_
      refine QW.cond (t := (!((idx (n0.fKids).1 v4) == ([] : List UInt8)))) rfl zL (fun hb_4 => ?_) (fun hb_4 => ?_)
      · replace h := bT h hb_4
        refine rG ?_
        refine xm 14 (pI v3_2) ?_
        obtain ⟨c_5, h⟩ := gO_get h
        refine xs 15 rfl (sf_add (a := v3_2) (b := (1 : Int)) rfl rfl rfl c_5 ?_)
        refine xa 3 (pI (v3_2 + (1 : Int))) ?_
        refine XK.nil (blN (nrm ?_))
        obtain rfl := sO h
        exact ⟨⟨tab [(1, .d (.cptr (cNode n0))), (3, pI (v3_2 + (1 : Int))), (4, pI v4)], tabH [], 0, []⟩, View.mk 0 [] _ _ _ rfl rfl (by decide) (iC (iC (iC trivial))) trivial rfl zL rfl, rfl⟩
      · replace h := bF h hb_4
        refine QW.skip zL (blN (nrm ?_))
        obtain rfl := sO h
        exact ⟨⟨tab [(1, .d (.cptr (cNode n0))), (3, pI v3_2), (4, pI v4)], tabH [], 0, []⟩, View.mk 0 [] _ _ _ rfl rfl (by decide) (iC (iC (iC trivial))) trivial rfl zL rfl, rfl⟩
    · rintro _ rfl
      refine rG ?_
      refine xm 7 (pI v4) ?_
      obtain ⟨c_6, h⟩ := gG h
      refine xs 8 rfl (sf_add (a := v4) (b := (1 : Int)) rfl rfl rfl c_6 ?_)
      refine xz 4 (pI (v4 + (1 : Int))) ?_
      exact ⟨k_1, by omega, ⟨tab [(1, .d (.cptr (cNode n0))), (3, pI v3_4), (4, pI (v4 + (1 : Int)))], tabH [], 0, []⟩, View.mk 0 [] _ _ _ rfl rfl (by decide) (iC (iC (iC trivial))) trivial rfl zL rfl, v3_4, (v4 + (1 : Int)), by omega, jG h, rfl⟩
  · replace h := bGF h hb_2
    refine QW.exit zL (thX (thX (exE (nrm ?_))))
    refine sR ?_
    refine xm 16 (pI v3_2) ?_
    refine xz 2 (pI v3_2) ?_
    refine QW.ret zL ?_
    obtain rfl := sG h
    exact Ends.one (.inr rfl) rfl (ResIs.tmp rfl) rfl rfl
inductive C_ref06_May where
  | S
  | L1 (v3 : Int)
noncomputable def step_ref06_May (self : (List UInt8) → Option Bool) (n0 : Node) : C_ref06_May → Option (C_ref06_May ⊕ Bool)
  | .S =>
    ((g_ref02_Right (n0.fPath)).bind fun (x_1 : Bool) =>
    (bif ((!x_1) || (decide ((64 : Int) < ((n0.fPath).length : Int)))) then
    some (.inr false)
    else
    some (.inl (.L1 (0)))))
  | .L1 v3 =>
    (bif (decide (v3 < (16 : Int))) then
    gO (0 ≤ v3 ∧ v3 < ((16 : Nat) : Int)) (
    ((self (idx (n0.fKids).1 v3)).bind fun (x_7 : Bool) =>
    (bif (!x_7) then
    some (.inr false)
    else
    gO (inI (v3 + (1 : Int))) (
    some (.inl (.L1 (v3 + (1 : Int))))))))
    else
    (bif (decide ((n0.fKind) = (1 : Int))) then
    ((bif (((decide ((1 : Int) ≤ ((n0.fValue).length : Int))) && (decide (((n0.fValue).length : Int) ≤ (65552 : Int)))) == true) then g_ref06_kids n0 else some default).bind fun (x_12 : Int) =>
    some (.inr (((decide ((1 : Int) ≤ ((n0.fValue).length : Int))) && (decide (((n0.fValue).length : Int) ≤ (65552 : Int)))) && (decide (x_12 = (0 : Int))))))
    else
    (bif (decide ((n0.fKind) = (2 : Int))) then
    ((bif ((((n0.fValue == ([] : List UInt8)) && (decide ((0 : Int) < ((n0.fPath).length : Int)))) && (!((idx (n0.fKids).1 (0 : Int)) == ([] : List UInt8)))) == true) then g_ref06_kids n0 else some default).bind fun (x_15 : Int) =>
    some (.inr ((((n0.fValue == ([] : List UInt8)) && (decide ((0 : Int) < ((n0.fPath).length : Int)))) && (!((idx (n0.fKids).1 (0 : Int)) == ([] : List UInt8)))) && (decide (x_15 = (1 : Int))))))
    else
    ((bif ((((decide ((n0.fKind) = (3 : Int))) && (n0.fValue == ([] : List UInt8))) && (decide (((n0.fPath).length : Int) = (0 : Int)))) == true) then g_ref06_kids n0 else some default).bind fun (x_17 : Int) =>
    some (.inr ((((decide ((n0.fKind) = (3 : Int))) && (n0.fValue == ([] : List UInt8))) && (decide (((n0.fPath).length : Int) = (0 : Int)))) && (decide ((2 : Int) ≤ x_17))))))))
noncomputable def gs_ref06_May (self : (List UInt8) → Option Bool) (n0 : Node) : Option Bool := theC (step_ref06_May self n0) .S
theorem sims_ref06_May (self : (List UInt8) → Option Bool) (hself : ∀ (y0 : (List UInt8)) (rr : Bool), self y0 = some rr → Fun Try.prog 48 [.val (sV y0)] (.val (.bool rr))) (n0 : Node) (r : Bool) (h : gs_ref06_May self n0 = some r) : Fun Try.prog 35 [.agg (cNode n0)] (.val (.bool r)) := by
  refine Fun.of_bodyQ Try.func35 rfl (by simp [Try.ntmps35]) ?_
  rw [Try.ntmps35, TT.res_35]
  refine QW.view (s' := ⟨tab [(0, .d (.agg (cNode n0)))], tabH [], 0, []⟩) (View.init (by rfl)) zL ?_
  replace h := theC_get h
  obtain ⟨_, h⟩ := h
  obtain ⟨k_0, rfl, h9⟩ := run_succ h; replace h := h9; clear h9; rw [step_ref06_May] at h
  refine sR ?_
  refine XK.fz (some 1) rfl rfl (sf_boxF (ds := cNode n0) rfl rfl rfl rfl toDs_map ?_)
  refine xz 2 (pB false) ?_
  refine QW.seq ?_
  refine sR ?_
  refine xs 4 rfl (sf_fldC rfl TT.fldA_52_1 (by decide) rfl ?_)
  refine xs 5 rfl (sf_ldC (d := .slice ((n0.fPath).map byteD)) rfl TT.tyA_49 rfl (ldc_Node_1 _) ?_)
  obtain ⟨x_1, hx_2, h⟩ := bG h
  refine xs 6 rfl (sf_call rfl rfl TT.enters_99 rfl (sim_ref02_Right (n0.fPath) _ hx_2) ?_)
  refine xs 7 rfl (sf_not rfl rfl ?_)
  refine xm 8 (pB (!x_1)) ?_
  refine xg 9 (.d (.cptr ((cNode n0).drop 1))) rfl rfl (fun hg => sf_fldC rfl TT.fldA_52_1 (by decide) rfl g3) ?_
  refine xg 10 (.d (.slice ((n0.fPath).map byteD))) rfl rfl (fun hg => sf_ldC (d := .slice ((n0.fPath).map byteD)) rfl TT.tyA_49 rfl (ldc_Node_1 _) g3) ?_
  refine xg 11 (pI ((n0.fPath).length : Int)) rfl rfl (fun hg => sf_lenL (en := byteD) (l := n0.fPath) rfl TT.under_49 rfl g3) ?_
  refine xg 12 (pB (decide ((64 : Int) < ((n0.fPath).length : Int)))) rfl rfl (fun hg => sf_gtr (a := ((n0.fPath).length : Int)) (b := (64 : Int)) rfl rfl rfl g3) ?_
  refine xs 13 rfl (sf_pickO rfl rfl rfl rfl (fun _ => rfl) (fun hb => by rw [hb]; rfl) ?_)
  refine XK.nz ?_
  refine QW.cond (t := ((!x_1) || (decide ((64 : Int) < ((n0.fPath).length : Int))))) rfl zL (fun hb_3 => ?_) (fun hb_3 => ?_)
  · replace h := bGT h hb_3
    refine sR ?_
    refine xz 2 (pB false) ?_
    refine QW.ret zL (thR ?_)
    obtain rfl := sG h
    exact Ends.one (.inr rfl) rfl (ResIs.tmp rfl) rfl rfl
  · replace h := bGF h hb_3
    refine QW.skip zL (nrm ?_)
    refine QW.seq ?_
    refine sR ?_
    refine xz 3 (pI (0)) ?_
    refine QW.block ?_
    refine QW.loop (fun k σ => ∃ v3 : Int, k ≤ k_0 ∧ run (step_ref06_May self n0) k (.L1 v3) = some r ∧ σ = ⟨tab [(1, .d (.cptr (cNode n0))), (3, pI v3)], tabH [], 0, []⟩) k_0 zL ⟨⟨tab [(1, .d (.cptr (cNode n0))), (3, pI (0))], tabH [], 0, []⟩, View.mk 0 [] _ _ _ rfl rfl (by decide) (iC (iC trivial)) trivial rfl zL rfl, 0, Nat.le_refl _, jG h, rfl⟩ ?_
    rintro k_4s _ ⟨v3, k_4h, h, rfl⟩
    obtain ⟨k_4, rfl, h9⟩ := run_succ h; replace h := h9; clear h9; rw [step_ref06_May] at h
    refine QW.seq ?_
    refine sR ?_
    refine xm 14 (pI v3) ?_
    refine xs 15 rfl (sf_lss (a := v3) (b := (16 : Int)) rfl rfl rfl ?_)
    refine XK.nz ?_
    refine QW.cond (t := (decide (v3 < (16 : Int)))) rfl zL (fun hb_5 => ?_) (fun hb_5 => ?_)
    · replace h := bGT h hb_5
      refine QW.skip zL (nrm ?_)
      refine QW.seq ?_
      refine QW.block ?_
      refine sR ?_
      refine xm 18 (pI v3) ?_
      refine xs 19 rfl (sf_fldC rfl TT.fldA_52_3 (by decide) rfl ?_)
      obtain ⟨c_6, h⟩ := gG h
      refine xs 20 rfl (sf_idxC (i := v3) rfl TT.slcA_50 TT.arrA_50 rfl rfl c_6 ?_)
      refine xs 21 rfl (sf_ldC (d := .val (sV (idx (n0.fKids).1 v3))) rfl TT.tyA_9 rfl (ld_arr (pre_Node_3 _) c_6) ?_)
      obtain ⟨x_7, hx_8, h⟩ := bG h
      refine xs 22 rfl (sf_call rfl rfl TT.enters_48 rfl (hself (idx (n0.fKids).1 v3) _ hx_8) ?_)
      refine xs 23 rfl (sf_not rfl rfl ?_)
      refine XK.nz ?_
      refine QW.cond (t := (!x_7)) rfl zL (fun hb_9 => ?_) (fun hb_9 => ?_)
      · replace h := bGT h hb_9
        refine sR ?_
        refine xz 2 (pB false) ?_
        refine QW.ret zL (blR (thR (thR (blR (thR ?_)))))
        obtain rfl := sG h
        exact Ends.one (.inr rfl) rfl (ResIs.tmp rfl) rfl rfl
      · replace h := bGF h hb_9
        refine QW.skip zL (blN (nrm ?_))
        refine rG ?_
        refine xm 16 (pI v3) ?_
        obtain ⟨c_10, h⟩ := gG h
        refine xs 17 rfl (sf_add (a := v3) (b := (1 : Int)) rfl rfl rfl c_10 ?_)
        refine xz 3 (pI (v3 + (1 : Int))) ?_
        exact ⟨k_4, by omega, ⟨tab [(1, .d (.cptr (cNode n0))), (3, pI (v3 + (1 : Int)))], tabH [], 0, []⟩, View.mk 0 [] _ _ _ rfl rfl (by decide) (iC (iC trivial)) trivial rfl zL rfl, (v3 + (1 : Int)), by omega, jG h, rfl⟩
    · replace h := bGF h hb_5
      refine QW.exit zL (thX (thX (exE (nrm ?_))))
      refine QW.seq ?_
      refine sR ?_
      refine xs 24 rfl (sf_fldC rfl TT.fldA_52_0 (by decide) rfl ?_)
      refine xs 25 rfl (sf_ldC (d := .val (.int .i64 (n0.fKind))) rfl TT.tyA_3 rfl (ldc_Node_0 _) ?_)
      refine xs 26 rfl (sf_eq (a := (n0.fKind)) (b := (1 : Int)) rfl rfl rfl ?_)
      refine XK.nz ?_
      refine QW.cond (t := (decide ((n0.fKind) = (1 : Int)))) rfl zL (fun hb_11 => ?_) (fun hb_11 => ?_)
      · replace h := bGT h hb_11
        refine sR ?_
        refine xs 27 rfl (sf_fldC rfl TT.fldA_52_2 (by decide) rfl ?_)
        refine xs 28 rfl (sf_ldC (d := .val (sV (n0.fValue))) rfl TT.tyA_9 rfl (ldc_Node_2 _) ?_)
        refine xs 29 rfl (sf_lenS (l := n0.fValue) rfl TT.under_9 rfl ?_)
        refine xs 30 rfl (sf_geq (a := ((n0.fValue).length : Int)) (b := (1 : Int)) rfl rfl rfl ?_)
        refine xm 31 (pB (decide ((1 : Int) ≤ ((n0.fValue).length : Int)))) ?_
        refine xg 32 (.d (.cptr ((cNode n0).drop 2))) rfl rfl (fun hg => sf_fldC rfl TT.fldA_52_2 (by decide) rfl g3) ?_
        refine xg 33 (pS (n0.fValue)) rfl rfl (fun hg => sf_ldC (d := .val (sV (n0.fValue))) rfl TT.tyA_9 rfl (ldc_Node_2 _) g3) ?_
        refine xg 34 (pI ((n0.fValue).length : Int)) rfl rfl (fun hg => sf_lenS (l := n0.fValue) rfl TT.under_9 rfl g3) ?_
        refine xg 35 (pB (decide (((n0.fValue).length : Int) ≤ (65552 : Int)))) rfl rfl (fun hg => sf_leq (a := ((n0.fValue).length : Int)) (b := (65552 : Int)) rfl rfl rfl g3) ?_
        refine xs 36 rfl (sf_pickA rfl rfl rfl rfl (fun hb => by rw [hb]; rfl) (fun _ => rfl) ?_)
        refine xm 37 (pB ((decide ((1 : Int) ≤ ((n0.fValue).length : Int))) && (decide (((n0.fValue).length : Int) ≤ (65552 : Int))))) ?_
        refine xg 38 (.d (.agg (cNode n0))) rfl rfl (fun hg => sf_ldC (d := .agg (cNode n0)) rfl TT.tyA_52 rfl (⟨by rw [lay_Node.len]; decide, congrArg D.agg (List.take_of_length_le (by rw [lay_Node.len]; decide))⟩) g3) ?_
        obtain ⟨x_12, hx_13, h⟩ := bG h
        refine xg 39 (pI x_12) rfl rfl (fun hg => sf_call rfl rfl TT.enters_100 rfl (sim_ref06_kids n0 _ (bT hx_13 hg)) g3) ?_
        refine xg 40 (pB (decide (x_12 = (0 : Int)))) rfl rfl (fun hg => sf_eq (a := x_12) (b := (0 : Int)) rfl rfl rfl g3) ?_
        refine xs 41 rfl (sf_pickA rfl rfl rfl rfl (fun hb => by rw [hb]; rfl) (fun _ => rfl) ?_)
        refine xz 2 (pB (((decide ((1 : Int) ≤ ((n0.fValue).length : Int))) && (decide (((n0.fValue).length : Int) ≤ (65552 : Int)))) && (decide (x_12 = (0 : Int))))) ?_
        refine QW.ret zL (thR ?_)
        obtain rfl := sG h
        exact Ends.one (.inr rfl) rfl (ResIs.tmp rfl) rfl rfl
      · replace h := bGF h hb_11
        refine QW.skip zL (nrm ?_)
        refine QW.seq ?_
        refine sR ?_
        refine xs 42 rfl (sf_fldC rfl TT.fldA_52_0 (by decide) rfl ?_)
        refine xs 43 rfl (sf_ldC (d := .val (.int .i64 (n0.fKind))) rfl TT.tyA_3 rfl (ldc_Node_0 _) ?_)
        refine xs 44 rfl (sf_eq (a := (n0.fKind)) (b := (2 : Int)) rfl rfl rfl ?_)
        refine XK.nz ?_
        refine QW.cond (t := (decide ((n0.fKind) = (2 : Int)))) rfl zL (fun hb_14 => ?_) (fun hb_14 => ?_)
        · replace h := bGT h hb_14
          refine sR ?_
          refine xs 45 rfl (sf_fldC rfl TT.fldA_52_2 (by decide) rfl ?_)
          refine xs 46 rfl (sf_ldC (d := .val (sV (n0.fValue))) rfl TT.tyA_9 rfl (ldc_Node_2 _) ?_)
          refine xs 47 rfl (sf_seq (a := n0.fValue) (b := ([] : List UInt8)) rfl rfl rfl ?_)
          refine xm 48 (pB (n0.fValue == ([] : List UInt8))) ?_
          refine xg 49 (.d (.cptr ((cNode n0).drop 1))) rfl rfl (fun hg => sf_fldC rfl TT.fldA_52_1 (by decide) rfl g3) ?_
          refine xg 50 (.d (.slice ((n0.fPath).map byteD))) rfl rfl (fun hg => sf_ldC (d := .slice ((n0.fPath).map byteD)) rfl TT.tyA_49 rfl (ldc_Node_1 _) g3) ?_
          refine xg 51 (pI ((n0.fPath).length : Int)) rfl rfl (fun hg => sf_lenL (en := byteD) (l := n0.fPath) rfl TT.under_49 rfl g3) ?_
          refine xg 52 (pB (decide ((0 : Int) < ((n0.fPath).length : Int)))) rfl rfl (fun hg => sf_gtr (a := ((n0.fPath).length : Int)) (b := (0 : Int)) rfl rfl rfl g3) ?_
          refine xs 53 rfl (sf_pickA rfl rfl rfl rfl (fun hb => by rw [hb]; rfl) (fun _ => rfl) ?_)
          refine xm 54 (pB ((n0.fValue == ([] : List UInt8)) && (decide ((0 : Int) < ((n0.fPath).length : Int))))) ?_
          refine xg 55 (.d (.cptr ((cNode n0).drop 3))) rfl rfl (fun hg => sf_fldC rfl TT.fldA_52_3 (by decide) rfl g3) ?_
          refine xg 56 (.d (.cptr (((cNode n0).drop 3).drop ((0 : Int).toNat * 1)))) rfl rfl (fun hg => sf_idxC (i := (0 : Int)) rfl TT.slcA_50 TT.arrA_50 rfl rfl (by decide) g3) ?_
          refine xg 57 (pS (idx (n0.fKids).1 (0 : Int))) rfl rfl (fun hg => sf_ldC (d := .val (sV (idx (n0.fKids).1 (0 : Int)))) rfl TT.tyA_9 rfl (ld_arr (pre_Node_3 _) (by decide)) g3) ?_
          refine xg 58 (pB (!((idx (n0.fKids).1 (0 : Int)) == ([] : List UInt8)))) rfl rfl (fun hg => sf_sne (a := (idx (n0.fKids).1 (0 : Int))) (b := ([] : List UInt8)) rfl rfl rfl g3) ?_
          refine xs 59 rfl (sf_pickA rfl rfl rfl rfl (fun hb => by rw [hb]; rfl) (fun _ => rfl) ?_)
          refine xm 60 (pB (((n0.fValue == ([] : List UInt8)) && (decide ((0 : Int) < ((n0.fPath).length : Int)))) && (!((idx (n0.fKids).1 (0 : Int)) == ([] : List UInt8))))) ?_
          refine xg 61 (.d (.agg (cNode n0))) rfl rfl (fun hg => sf_ldC (d := .agg (cNode n0)) rfl TT.tyA_52 rfl (⟨by rw [lay_Node.len]; decide, congrArg D.agg (List.take_of_length_le (by rw [lay_Node.len]; decide))⟩) g3) ?_
          obtain ⟨x_15, hx_16, h⟩ := bG h
          refine xg 62 (pI x_15) rfl rfl (fun hg => sf_call rfl rfl TT.enters_100 rfl (sim_ref06_kids n0 _ (bT hx_16 hg)) g3) ?_
          refine xg 63 (pB (decide (x_15 = (1 : Int)))) rfl rfl (fun hg => sf_eq (a := x_15) (b := (1 : Int)) rfl rfl rfl g3) ?_
          refine xs 64 rfl (sf_pickA rfl rfl rfl rfl (fun hb => by rw [hb]; rfl) (fun _ => rfl) ?_)
          refine xz 2 (pB ((((n0.fValue == ([] : List UInt8)) && (decide ((0 : Int) < ((n0.fPath).length : Int)))) && (!((idx (n0.fKids).1 (0 : Int)) == ([] : List UInt8)))) && (decide (x_15 = (1 : Int))))) ?_
          refine QW.ret zL (thR ?_)
          obtain rfl := sG h
          exact Ends.one (.inr rfl) rfl (ResIs.tmp rfl) rfl rfl
        · replace h := bGF h hb_14
          refine QW.skip zL (nrm ?_)
          refine sR ?_
          refine xs 65 rfl (sf_fldC rfl TT.fldA_52_0 (by decide) rfl ?_)
          refine xs 66 rfl (sf_ldC (d := .val (.int .i64 (n0.fKind))) rfl TT.tyA_3 rfl (ldc_Node_0 _) ?_)
          refine xs 67 rfl (sf_eq (a := (n0.fKind)) (b := (3 : Int)) rfl rfl rfl ?_)
          refine xm 68 (pB (decide ((n0.fKind) = (3 : Int)))) ?_
          refine xg 69 (.d (.cptr ((cNode n0).drop 2))) rfl rfl (fun hg => sf_fldC rfl TT.fldA_52_2 (by decide) rfl g3) ?_
          refine xg 70 (pS (n0.fValue)) rfl rfl (fun hg => sf_ldC (d := .val (sV (n0.fValue))) rfl TT.tyA_9 rfl (ldc_Node_2 _) g3) ?_
          refine xg 71 (pB (n0.fValue == ([] : List UInt8))) rfl rfl (fun hg => sf_seq (a := n0.fValue) (b := ([] : List UInt8)) rfl rfl rfl g3) ?_
          refine xs 72 rfl (sf_pickA rfl rfl rfl rfl (fun hb => by rw [hb]; rfl) (fun _ => rfl) ?_)
          refine xm 73 (pB ((decide ((n0.fKind) = (3 : Int))) && (n0.fValue == ([] : List UInt8)))) ?_
          refine xg 74 (.d (.cptr ((cNode n0).drop 1))) rfl rfl (fun hg => sf_fldC rfl TT.fldA_52_1 (by decide) rfl g3) ?_
          refine xg 75 (.d (.slice ((n0.fPath).map byteD))) rfl rfl (fun hg => sf_ldC (d := .slice ((n0.fPath).map byteD)) rfl TT.tyA_49 rfl (ldc_Node_1 _) g3) ?_
          refine xg 76 (pI ((n0.fPath).length : Int)) rfl rfl (fun hg => sf_lenL (en := byteD) (l := n0.fPath) rfl TT.under_49 rfl g3) ?_
          refine xg 77 (pB (decide (((n0.fPath).length : Int) = (0 : Int)))) rfl rfl (fun hg => sf_eq (a := ((n0.fPath).length : Int)) (b := (0 : Int)) rfl rfl rfl g3) ?_
          refine xs 78 rfl (sf_pickA rfl rfl rfl rfl (fun hb => by rw [hb]; rfl) (fun _ => rfl) ?_)
          refine xm 79 (pB (((decide ((n0.fKind) = (3 : Int))) && (n0.fValue == ([] : List UInt8))) && (decide (((n0.fPath).length : Int) = (0 : Int))))) ?_
          refine xg 80 (.d (.agg (cNode n0))) rfl rfl (fun hg => sf_ldC (d := .agg (cNode n0)) rfl TT.tyA_52 rfl (⟨by rw [lay_Node.len]; decide, congrArg D.agg (List.take_of_length_le (by rw [lay_Node.len]; decide))⟩) g3) ?_
          obtain ⟨x_17, hx_18, h⟩ := bG h
          refine xg 81 (pI x_17) rfl rfl (fun hg => sf_call rfl rfl TT.enters_100 rfl (sim_ref06_kids n0 _ (bT hx_18 hg)) g3) ?_
          refine xg 82 (pB (decide ((2 : Int) ≤ x_17))) rfl rfl (fun hg => sf_geq (a := x_17) (b := (2 : Int)) rfl rfl rfl g3) ?_
          refine xs 83 rfl (sf_pickA rfl rfl rfl rfl (fun hb => by rw [hb]; rfl) (fun _ => rfl) ?_)
          refine xz 2 (pB ((((decide ((n0.fKind) = (3 : Int))) && (n0.fValue == ([] : List UInt8))) && (decide (((n0.fPath).length : Int) = (0 : Int)))) && (decide ((2 : Int) ≤ x_17)))) ?_
          refine QW.ret zL ?_
          obtain rfl := sG h
          exact Ends.one (.inr rfl) rfl (ResIs.tmp rfl) rfl rfl
noncomputable def gs_ref05_big (self : Int → Option (List UInt8)) (n0 : Int) : Option (List UInt8) :=
    (bif (decide (n0 = (0 : Int))) then
    some ([] : List UInt8)
    else
    gO ((256 : Int) ≠ 0 ∧ inI (n0.tdiv (256 : Int))) (
    ((self (n0.tdiv (256 : Int))).bind fun (x_3 : (List UInt8)) =>
    gO (x_3.length + ([(u8I (n0.tmod (256 : Int)))] : List UInt8).length ≤ 9223372036854775807) (
    some (x_3 ++ ([(u8I (n0.tmod (256 : Int)))] : List UInt8))))))
theorem sims_ref05_big (self : Int → Option (List UInt8)) (hself : ∀ (y0 : Int) (rr : (List UInt8)), self y0 = some rr → Fun Try.prog 152 [.val (.int .i64 y0)] (.val (sV rr))) (n0 : Int) (r : (List UInt8)) (h : gs_ref05_big self n0 = some r) : Fun Try.prog 152 [.val (.int .i64 n0)] (.val (sV r)) := by
  refine Fun.of_bodyQ Try.func152 rfl (by simp [Try.ntmps152]) ?_
  rw [Try.ntmps152, TT.res_152]
  refine QW.view (s' := ⟨tab [(0, pI n0)], tabH [], 0, []⟩) (View.init (by rfl)) zL ?_
  unfold gs_ref05_big at h
  refine sR ?_
  refine xz 2 (pS ([] : List UInt8)) ?_
  refine QW.seq ?_
  refine sR ?_
  refine xm 3 (pI n0) ?_
  refine xs 4 rfl (sf_eq (a := n0) (b := (0 : Int)) rfl rfl rfl ?_)
  refine XK.nz ?_
  refine QW.cond (t := (decide (n0 = (0 : Int)))) rfl zL (fun hb_1 => ?_) (fun hb_1 => ?_)
  · replace h := bT h hb_1
    refine sR ?_
    refine xz 2 (pS ([] : List UInt8)) ?_
    refine QW.ret zL (thR ?_)
    obtain rfl := sO h
    exact Ends.one (.inr rfl) rfl (ResIs.tmp rfl) rfl rfl
  · replace h := bF h hb_1
    refine QW.skip zL (nrm ?_)
    refine QW.seq ?_
    refine QW.region zL (PW.regQ (id := 3) mixedX (M := _) rfl (by kernel_rfl) ?_)
    refine RQ.st (some 5) rfl rfl (sf_move (v := pI n0) rfl rfl ⟨⟨rfl, rfl⟩, ?_⟩)
    obtain ⟨c_2, h⟩ := gO_get h
    refine RQ.st (some 6) rfl rfl (sf_quo (a := n0) (b := (256 : Int)) rfl rfl rfl c_2 ⟨⟨rfl, rfl⟩, ?_⟩)
    obtain ⟨x_3, hx_4, h⟩ := bO h
    refine RQ.st (some 7) rfl rfl (sf_call rfl rfl TT.enters_152 rfl (hself (n0.tdiv (256 : Int)) _ hx_4) ⟨⟨rfl, rfl⟩, ?_⟩)
    refine RQ.st (some 8) rfl rfl (sf_move (v := pI n0) rfl rfl ⟨⟨rfl, rfl⟩, ?_⟩)
    refine RQ.st (some 9) rfl rfl (sf_rem (a := n0) (b := (256 : Int)) rfl rfl rfl (by decide) ⟨⟨rfl, rfl⟩, ?_⟩)
    refine RQ.st (some 10) rfl rfl (sf_toU8 (n := (n0.tmod (256 : Int))) rfl TT.under_3 TT.under_5 rfl ⟨⟨rfl, rfl⟩, ?_⟩)
    refine RQ.st (some 11) rfl rfl (sf_row (en := byteD) (l := ([(u8I (n0.tmod (256 : Int)))] : List UInt8)) rfl TT.rowA_49 lay_byte rfl rfl (by decide) (by simp [solids, partsP, evP, ofVal, PV.solid, putS_at, tab, unS, unT, unC, asCond, Value.oneCell']) ⟨⟨rfl, rfl⟩, ?_⟩)
    refine RQ.st (some 12) rfl rfl (sf_b2s (l := ([(u8I (n0.tmod (256 : Int)))] : List UInt8)) rfl TT.under_49 TT.under_5 TT.under_9 rfl ⟨⟨rfl, rfl⟩, ?_⟩)
    obtain ⟨c_5, h⟩ := gO_get h
    refine RQ.st (some 13) rfl rfl (sf_cat (a := x_3) (b := ([(u8I (n0.tmod (256 : Int)))] : List UInt8)) rfl rfl rfl c_5 ⟨⟨rfl, rfl⟩, ?_⟩)
    refine RQ.st (some 2) rfl rfl (sf_assign (v := pS (x_3 ++ ([(u8I (n0.tmod (256 : Int)))] : List UInt8))) rfl rfl ⟨⟨rfl, rfl⟩, ?_⟩)
    refine RQ.nil (nrm ?_)
    refine QW.ret zL ?_
    obtain rfl := sO h
    exact Ends.one (.inr rfl) rfl (ResIs.tmp rfl) rfl rfl
noncomputable def rec_ref05_big : Nat → Int → Option (List UInt8)
  | 0 => fun _ => none
  | n + 1 => fun y0 => gs_ref05_big (rec_ref05_big n) y0
theorem simr_ref05_big : ∀ (n : Nat) (y0 : Int) (rr : (List UInt8)), rec_ref05_big n y0 = some rr → Fun Try.prog 152 [.val (.int .i64 y0)] (.val (sV rr))
  | 0, _, _, h => by cases h
  | n + 1, y0, rr, h => sims_ref05_big (rec_ref05_big n) (simr_ref05_big n) y0 rr h
noncomputable def g_ref05_big (y0 : Int) : Option (List UInt8) := theR (fun n => rec_ref05_big n y0)
theorem sim_ref05_big (y0 : Int) (rr : (List UInt8)) (h : g_ref05_big y0 = some rr) : Fun Try.prog 152 [.val (.int .i64 y0)] (.val (sV rr)) := by
  obtain ⟨n, hn⟩ := theR_get h
  exact simr_ref05_big n y0 rr hn
noncomputable def g_ref05_Head (n0 : Int) (list1 : Bool) : Option (List UInt8) :=
    (((bif list1 then
    some (192)
    else
    some (128)) : Option Int).bind fun (v5 : Int) =>
    (bif (decide (n0 < (56 : Int))) then
    gO (inI (v5 + n0)) (
    some ([(u8I (v5 + n0))] : List UInt8))
    else
    ((g_ref05_big n0).bind fun (x_4 : (List UInt8)) =>
    gO (inI (v5 + (55 : Int))) (
    gO (inI ((v5 + (55 : Int)) + (x_4.length : Int))) (
    gO (([(u8I ((v5 + (55 : Int)) + (x_4.length : Int)))] : List UInt8).length + x_4.length ≤ 9223372036854775807) (
    some (([(u8I ((v5 + (55 : Int)) + (x_4.length : Int)))] : List UInt8) ++ x_4)))))))
theorem sim_ref05_Head (n0 : Int) (list1 : Bool) (r : (List UInt8)) (h : g_ref05_Head n0 list1 = some r) : Fun Try.prog 111 [.val (.int .i64 n0), .val (.bool list1)] (.val (sV r)) := by
  refine Fun.of_bodyQ Try.func111 rfl (by simp [Try.ntmps111]) ?_
  rw [Try.ntmps111, TT.res_111]
  refine QW.view (s' := ⟨tab [(0, pI n0), (1, pB list1)], tabH [], 0, []⟩) (View.init (by rfl)) zL ?_
  unfold g_ref05_Head at h
  refine sR ?_
  refine xz 4 (pS ([] : List UInt8)) ?_
  refine sR ?_
  refine xz 5 (pI (128)) ?_
  obtain ⟨v5, hq, h⟩ := bO h
  refine QW.seqI (fun s' => s' = ⟨tab [(0, pI n0), (5, pI v5)], tabH [], 0, []⟩) ?_ ?_
  · replace h := hq; clear hq
    refine sR ?_
    refine xm 7 (pB list1) ?_
    refine XK.nz ?_
    refine QW.cond (t := list1) rfl zL (fun hb_1 => ?_) (fun hb_1 => ?_)
    · replace h := bT h hb_1
      refine rG ?_
      refine xz 5 (pI (192)) ?_
      obtain rfl := sO h
      exact ⟨⟨tab [(0, pI n0), (5, pI (192))], tabH [], 0, []⟩, View.mk 0 [] _ _ _ rfl rfl (by decide) (iC (iC trivial)) trivial rfl zL rfl, rfl⟩
    · replace h := bF h hb_1
      refine QW.skip zL (nrm ?_)
      obtain rfl := sO h
      exact ⟨⟨tab [(0, pI n0), (5, pI (128))], tabH [], 0, []⟩, View.mk 0 [] _ _ _ rfl rfl (by decide) (iC (iC trivial)) trivial rfl zL rfl, rfl⟩
  · rintro _ rfl
    refine QW.seq ?_
    refine sR ?_
    refine xm 8 (pI n0) ?_
    refine xs 9 rfl (sf_lss (a := n0) (b := (56 : Int)) rfl rfl rfl ?_)
    refine XK.nz ?_
    refine QW.cond (t := (decide (n0 < (56 : Int)))) rfl zL (fun hb_2 => ?_) (fun hb_2 => ?_)
    · replace h := bT h hb_2
      refine sR ?_
      refine xm 10 (pI v5) ?_
      refine xm 11 (pI n0) ?_
      obtain ⟨c_3, h⟩ := gO_get h
      refine xs 12 rfl (sf_add (a := v5) (b := n0) rfl rfl rfl c_3 ?_)
      refine xs 13 rfl (sf_toU8 (n := (v5 + n0)) rfl TT.under_3 TT.under_5 rfl ?_)
      refine xs 14 rfl (sf_row (en := byteD) (l := ([(u8I (v5 + n0))] : List UInt8)) rfl TT.rowA_49 lay_byte rfl rfl (by decide) (by simp [solids, partsP, evP, ofVal, PV.solid, putS_at, tab, unS, unT, unC, asCond, Value.oneCell']) ?_)
      refine xs 15 rfl (sf_b2s (l := ([(u8I (v5 + n0))] : List UInt8)) rfl TT.under_49 TT.under_5 TT.under_9 rfl ?_)
      refine xz 4 (pS ([(u8I (v5 + n0))] : List UInt8)) ?_
      refine QW.ret zL (thR ?_)
      obtain rfl := sO h
      exact Ends.one (.inr rfl) rfl (ResIs.tmp rfl) rfl rfl
    · replace h := bF h hb_2
      refine QW.skip zL (nrm ?_)
      refine sR ?_
      refine xm 16 (pI n0) ?_
      obtain ⟨x_4, hx_5, h⟩ := bO h
      refine xs 17 rfl (sf_call rfl rfl TT.enters_152 rfl (sim_ref05_big n0 _ hx_5) ?_)
      refine xz 6 (pS x_4) ?_
      refine sR ?_
      refine xm 18 (pI v5) ?_
      obtain ⟨c_6, h⟩ := gO_get h
      refine xs 19 rfl (sf_add (a := v5) (b := (55 : Int)) rfl rfl rfl c_6 ?_)
      refine xm 20 (pS x_4) ?_
      refine xs 21 rfl (sf_lenS (l := x_4) rfl TT.under_9 rfl ?_)
      obtain ⟨c_7, h⟩ := gO_get h
      refine xs 22 rfl (sf_add (a := (v5 + (55 : Int))) (b := (x_4.length : Int)) rfl rfl rfl c_7 ?_)
      refine xs 23 rfl (sf_toU8 (n := ((v5 + (55 : Int)) + (x_4.length : Int))) rfl TT.under_3 TT.under_5 rfl ?_)
      refine xs 24 rfl (sf_row (en := byteD) (l := ([(u8I ((v5 + (55 : Int)) + (x_4.length : Int)))] : List UInt8)) rfl TT.rowA_49 lay_byte rfl rfl (by decide) (by simp [solids, partsP, evP, ofVal, PV.solid, putS_at, tab, unS, unT, unC, asCond, Value.oneCell']) ?_)
      refine xs 25 rfl (sf_b2s (l := ([(u8I ((v5 + (55 : Int)) + (x_4.length : Int)))] : List UInt8)) rfl TT.under_49 TT.under_5 TT.under_9 rfl ?_)
      refine xm 26 (pS x_4) ?_
      obtain ⟨c_8, h⟩ := gO_get h
      refine xs 27 rfl (sf_cat (a := ([(u8I ((v5 + (55 : Int)) + (x_4.length : Int)))] : List UInt8)) (b := x_4) rfl rfl rfl c_8 ?_)
      refine xz 4 (pS (([(u8I ((v5 + (55 : Int)) + (x_4.length : Int)))] : List UInt8) ++ x_4)) ?_
      refine QW.ret zL ?_
      obtain rfl := sO h
      exact Ends.one (.inr rfl) rfl (ResIs.tmp rfl) rfl rfl
inductive C_ref05_Put where
  | S
  | L1 (v3 : (List UInt8)) (v4 : Int)
noncomputable def step_ref05_Put (self : Item → Option (List UInt8)) (x0 : Item) : C_ref05_Put → Option (C_ref05_Put ⊕ (List UInt8))
  | .S =>
    (bif (!(x0).fList) then
    gO ((decide (((x0.fS).length : Int) = (1 : Int))) = true → 0 ≤ (0 : Int) ∧ (0 : Int) < ((x0.fS).length : Int)) (
    (bif ((decide (((x0.fS).length : Int) = (1 : Int))) && (decide (((idx (x0.fS) (0 : Int)).toNat : Int) ≤ (127 : Int)))) then
    some (.inr (x0.fS))
    else
    ((g_ref05_Head ((x0.fS).length : Int) false).bind fun (x_4 : (List UInt8)) =>
    gO (x_4.length + (x0.fS).length ≤ 9223372036854775807) (
    some (.inr (x_4 ++ x0.fS))))))
    else
    some (.inl (.L1 ([] : List UInt8) (0))))
  | .L1 v3 v4 =>
    (bif (decide (v4 < ((x0.fL).length : Int))) then
    gO (0 ≤ v4 ∧ v4 < ((x0.fL).length : Int)) (
    ((self (idx (x0.fL) v4)).bind fun (x_10 : (List UInt8)) =>
    gO (v3.length + x_10.length ≤ 9223372036854775807) (
    gO (inI (v4 + (1 : Int))) (
    some (.inl (.L1 (v3 ++ x_10) (v4 + (1 : Int))))))))
    else
    ((g_ref05_Head (v3.length : Int) true).bind fun (x_14 : (List UInt8)) =>
    gO (x_14.length + v3.length ≤ 9223372036854775807) (
    some (.inr (x_14 ++ v3)))))
noncomputable def gs_ref05_Put (self : Item → Option (List UInt8)) (x0 : Item) : Option (List UInt8) := theC (step_ref05_Put self x0) .S
theorem sims_ref05_Put (self : Item → Option (List UInt8)) (hself : ∀ (y0 : Item) (rr : (List UInt8)), self y0 = some rr → Fun Try.prog 151 [.agg (cItem y0)] (.val (sV rr))) (x0 : Item) (r : (List UInt8)) (h : gs_ref05_Put self x0 = some r) : Fun Try.prog 151 [.agg (cItem x0)] (.val (sV r)) := by
  refine Fun.of_bodyQ Try.func151 rfl (by simp [Try.ntmps151]) ?_
  rw [Try.ntmps151, TT.res_151]
  refine QW.view (s' := ⟨tab [(0, .d (.agg (cItem x0)))], tabH [], 0, []⟩) (View.init (by rfl)) zL ?_
  replace h := theC_get h
  obtain ⟨_, h⟩ := h
  obtain ⟨k_0, rfl, h9⟩ := run_succ h; replace h := h9; clear h9; rw [step_ref05_Put] at h
  refine sR ?_
  refine XK.fz (some 1) rfl rfl (sf_boxF (ds := cItem x0) rfl rfl rfl rfl rfl ?_)
  refine xz 2 (pS ([] : List UInt8)) ?_
  refine QW.seq ?_
  refine sR ?_
  refine xs 5 rfl (sf_fldC rfl TT.fldA_125_0 (by decide) rfl ?_)
  refine xs 6 rfl (sf_ldC (d := .val (.bool (x0.fList))) rfl TT.tyA_4 rfl (LdC.one) ?_)
  refine xs 7 rfl (sf_not rfl rfl ?_)
  refine XK.nz ?_
  refine QW.cond (t := (!(x0).fList)) rfl zL (fun hb_1 => ?_) (fun hb_1 => ?_)
  · replace h := bGT h hb_1
    refine QW.seq ?_
    refine sR ?_
    refine xs 8 rfl (sf_fldC rfl TT.fldA_125_1 (by decide) rfl ?_)
    refine xs 9 rfl (sf_ldC (d := .val (sV (x0.fS))) rfl TT.tyA_9 rfl (LdC.one) ?_)
    refine xs 10 rfl (sf_lenS (l := x0.fS) rfl TT.under_9 rfl ?_)
    refine xs 11 rfl (sf_eq (a := ((x0.fS).length : Int)) (b := (1 : Int)) rfl rfl rfl ?_)
    refine xm 12 (pB (decide (((x0.fS).length : Int) = (1 : Int)))) ?_
    refine xg 13 (.d (.cptr ((cItem x0).drop 1))) rfl rfl (fun hg => sf_fldC rfl TT.fldA_125_1 (by decide) rfl g3) ?_
    refine xg 14 (pS (x0.fS)) rfl rfl (fun hg => sf_ldC (d := .val (sV (x0.fS))) rfl TT.tyA_9 rfl (LdC.one) g3) ?_
    obtain ⟨c_2, h⟩ := gG h
    refine xg 15 (.d (.val (.int .u8 ((idx (x0.fS) (0 : Int)).toNat : Int)))) rfl rfl (fun hg => sf_idxS (l := x0.fS) (i := (0 : Int)) rfl TT.under_9 TT.arrA_9 rfl rfl (c_2 (eqB hg)) g3) ?_
    refine xg 16 (pB (decide (((idx (x0.fS) (0 : Int)).toNat : Int) ≤ (127 : Int)))) rfl rfl (fun hg => sf_leq (a := ((idx (x0.fS) (0 : Int)).toNat : Int)) (b := (127 : Int)) rfl rfl rfl g3) ?_
    refine xs 17 rfl (sf_pickA rfl rfl rfl rfl (fun hb => by rw [hb]; rfl) (fun _ => rfl) ?_)
    refine XK.nz ?_
    refine QW.cond (t := ((decide (((x0.fS).length : Int) = (1 : Int))) && (decide (((idx (x0.fS) (0 : Int)).toNat : Int) ≤ (127 : Int))))) rfl zL (fun hb_3 => ?_) (fun hb_3 => ?_)
    · replace h := bGT h hb_3
      refine sR ?_
      refine xs 18 rfl (sf_fldC rfl TT.fldA_125_1 (by decide) rfl ?_)
      refine xs 19 rfl (sf_ldC (d := .val (sV (x0.fS))) rfl TT.tyA_9 rfl (LdC.one) ?_)
      refine xz 2 (pS (x0.fS)) ?_
      refine QW.ret zL (thR (thR ?_))
      obtain rfl := sG h
      exact Ends.one (.inr rfl) rfl (ResIs.tmp rfl) rfl rfl
    · replace h := bGF h hb_3
      refine QW.skip zL (nrm ?_)
      refine QW.seq ?_
      refine QW.region zL (PW.regQ (id := 4) mixedX (M := _) rfl (by kernel_rfl) ?_)
      refine RQ.st (some 20) rfl rfl (sf_fldC rfl TT.fldA_125_1 (by decide) rfl ⟨⟨rfl, rfl⟩, ?_⟩)
      refine RQ.st (some 21) rfl rfl (sf_ldC (d := .val (sV (x0.fS))) rfl TT.tyA_9 rfl (LdC.one) ⟨⟨rfl, rfl⟩, ?_⟩)
      refine RQ.st (some 22) rfl rfl (sf_lenS (l := x0.fS) rfl TT.under_9 rfl ⟨⟨rfl, rfl⟩, ?_⟩)
      obtain ⟨x_4, hx_5, h⟩ := bG h
      refine RQ.st (some 23) rfl rfl (sf_call rfl rfl TT.enters_111 rfl (sim_ref05_Head ((x0.fS).length : Int) false _ hx_5) ⟨⟨rfl, rfl⟩, ?_⟩)
      refine RQ.st (some 24) rfl rfl (sf_fldC rfl TT.fldA_125_1 (by decide) rfl ⟨⟨rfl, rfl⟩, ?_⟩)
      refine RQ.st (some 25) rfl rfl (sf_ldC (d := .val (sV (x0.fS))) rfl TT.tyA_9 rfl (LdC.one) ⟨⟨rfl, rfl⟩, ?_⟩)
      obtain ⟨c_6, h⟩ := gG h
      refine RQ.st (some 26) rfl rfl (sf_cat (a := x_4) (b := x0.fS) rfl rfl rfl c_6 ⟨⟨rfl, rfl⟩, ?_⟩)
      refine RQ.st (some 2) rfl rfl (sf_assign (v := pS (x_4 ++ x0.fS)) rfl rfl ⟨⟨rfl, rfl⟩, ?_⟩)
      refine RQ.nil (nrm ?_)
      refine QW.ret zL (thR ?_)
      obtain rfl := sG h
      exact Ends.one (.inr rfl) rfl (ResIs.tmp rfl) rfl rfl
  · replace h := bGF h hb_1
    refine QW.skip zL (nrm ?_)
    refine sR ?_
    refine xz 3 (pS ([] : List UInt8)) ?_
    refine QW.seq ?_
    refine sR ?_
    refine xz 4 (pI (0)) ?_
    refine QW.block ?_
    refine QW.loop (fun k σ => ∃ v3 : (List UInt8), ∃ v4 : Int, k ≤ k_0 ∧ run (step_ref05_Put self x0) k (.L1 v3 v4) = some r ∧ σ = ⟨tab [(1, .d (.cptr (cItem x0))), (3, pS v3), (4, pI v4)], tabH [], 0, []⟩) k_0 zL ⟨⟨tab [(1, .d (.cptr (cItem x0))), (3, pS ([] : List UInt8)), (4, pI (0))], tabH [], 0, []⟩, View.mk 0 [] _ _ _ rfl rfl (by decide) (iC (iC (iC trivial))) trivial rfl zL rfl, ([] : List UInt8), 0, Nat.le_refl _, jG h, rfl⟩ ?_
    rintro k_7s _ ⟨v3, v4, k_7h, h, rfl⟩
    obtain ⟨k_7, rfl, h9⟩ := run_succ h; replace h := h9; clear h9; rw [step_ref05_Put] at h
    refine QW.seq ?_
    refine sR ?_
    refine xm 27 (pI v4) ?_
    refine xs 28 rfl (sf_fldC rfl TT.fldA_125_2 (by decide) rfl ?_)
    refine xs 29 rfl (sf_ldC (d := .slice ((x0.fL).map eItem)) rfl TT.tyA_123 rfl (LdC.one) ?_)
    refine xs 30 rfl (sf_lenL (en := eItem) (l := x0.fL) rfl TT.under_123 rfl ?_)
    refine xs 31 rfl (sf_lss (a := v4) (b := ((x0.fL).length : Int)) rfl rfl rfl ?_)
    refine XK.nz ?_
    refine QW.cond (t := (decide (v4 < ((x0.fL).length : Int)))) rfl zL (fun hb_8 => ?_) (fun hb_8 => ?_)
    · replace h := bGT h hb_8
      refine QW.skip zL (nrm ?_)
      refine QW.seq ?_
      refine QW.block ?_
      refine rG ?_
      refine xm 34 (pS v3) ?_
      refine xs 35 rfl (sf_fldC rfl TT.fldA_125_2 (by decide) rfl ?_)
      refine xs 36 rfl (sf_ldC (d := .slice ((x0.fL).map eItem)) rfl TT.tyA_123 rfl (LdC.one) ?_)
      refine xm 37 (pI v4) ?_
      obtain ⟨c_9, h⟩ := gG h
      refine xs 38 rfl (sf_idxA (l := x0.fL) (i := v4) rfl TT.slcA_123 lay_Item rfl rfl c_9 ?_)
      refine xs 39 rfl (sf_ldC (d := .agg (cItem (idx (x0.fL) v4))) rfl TT.tyA_125 rfl (⟨by simp [cItem], rfl⟩) ?_)
      obtain ⟨x_10, hx_11, h⟩ := bG h
      refine xs 40 rfl (sf_call rfl rfl TT.enters_151 rfl (hself (idx (x0.fL) v4) _ hx_11) ?_)
      obtain ⟨c_12, h⟩ := gG h
      refine xs 41 rfl (sf_cat (a := v3) (b := x_10) rfl rfl rfl c_12 ?_)
      refine xa 3 (pS (v3 ++ x_10)) ?_
      refine XK.nil (blN (nrm ?_))
      refine rG ?_
      refine xm 32 (pI v4) ?_
      obtain ⟨c_13, h⟩ := gG h
      refine xs 33 rfl (sf_add (a := v4) (b := (1 : Int)) rfl rfl rfl c_13 ?_)
      refine xz 4 (pI (v4 + (1 : Int))) ?_
      exact ⟨k_7, by omega, ⟨tab [(1, .d (.cptr (cItem x0))), (3, pS (v3 ++ x_10)), (4, pI (v4 + (1 : Int)))], tabH [], 0, []⟩, View.mk 0 [] _ _ _ rfl rfl (by decide) (iC (iC (iC trivial))) trivial rfl zL rfl, (v3 ++ x_10), (v4 + (1 : Int)), by omega, jG h, rfl⟩
    · replace h := bGF h hb_8
      refine QW.exit zL (thX (thX (exE (nrm ?_))))
      refine sR ?_
      refine xm 42 (pS v3) ?_
      refine xs 43 rfl (sf_lenS (l := v3) rfl TT.under_9 rfl ?_)
      obtain ⟨x_14, hx_15, h⟩ := bG h
      refine xs 44 rfl (sf_call rfl rfl TT.enters_111 rfl (sim_ref05_Head (v3.length : Int) true _ hx_15) ?_)
      refine xm 45 (pS v3) ?_
      obtain ⟨c_16, h⟩ := gG h
      refine xs 46 rfl (sf_cat (a := x_14) (b := v3) rfl rfl rfl c_16 ?_)
      refine xz 2 (pS (x_14 ++ v3)) ?_
      refine QW.ret zL ?_
      obtain rfl := sG h
      exact Ends.one (.inr rfl) rfl (ResIs.tmp rfl) rfl rfl
noncomputable def rec_ref05_Put : Nat → Item → Option (List UInt8)
  | 0 => fun _ => none
  | n + 1 => fun y0 => gs_ref05_Put (rec_ref05_Put n) y0
theorem simr_ref05_Put : ∀ (n : Nat) (y0 : Item) (rr : (List UInt8)), rec_ref05_Put n y0 = some rr → Fun Try.prog 151 [.agg (cItem y0)] (.val (sV rr))
  | 0, _, _, h => by cases h
  | n + 1, y0, rr, h => sims_ref05_Put (rec_ref05_Put n) (simr_ref05_Put n) y0 rr h
noncomputable def g_ref05_Put (y0 : Item) : Option (List UInt8) := theR (fun n => rec_ref05_Put n y0)
theorem sim_ref05_Put (y0 : Item) (rr : (List UInt8)) (h : g_ref05_Put y0 = some rr) : Fun Try.prog 151 [.agg (cItem y0)] (.val (sV rr)) := by
  obtain ⟨n, hn⟩ := theR_get h
  exact simr_ref05_Put n y0 rr hn
inductive C_ref06_kid where
  | S
  | J1 (v4 : (List UInt8))
noncomputable def step_ref06_kid (self : (List UInt8) → Option Bool) (x0 : Item) : C_ref06_kid → Option (C_ref06_kid ⊕ ((List UInt8) × Bool))
  | .S =>
    (bif x0.fList then
    ((g_ref05_Put x0).bind fun (x_2 : (List UInt8)) =>
    (bif (decide ((31 : Int) < (x_2.length : Int))) then
    some (.inr (([] : List UInt8), false))
    else
    some (.inl (.J1 x_2))))
    else
    some (.inl (.J1 (x0.fS))))
  | .J1 v4 =>
    ((self v4).bind fun (x_6 : Bool) =>
    some (.inr (v4, x_6)))
noncomputable def gs_ref06_kid (self : (List UInt8) → Option Bool) (x0 : Item) : Option ((List UInt8) × Bool) := theC (step_ref06_kid self x0) .S
theorem sims_ref06_kid (self : (List UInt8) → Option Bool) (hself : ∀ (y0 : (List UInt8)) (rr : Bool), self y0 = some rr → Fun Try.prog 48 [.val (sV y0)] (.val (.bool rr))) (x0 : Item) (r : ((List UInt8) × Bool)) (h : gs_ref06_kid self x0 = some r) : Fun Try.prog 114 [.agg (cItem x0)] (.tuple [.val (sV (r.1)), .val (.bool (r.2))]) := by
  refine Fun.of_bodyQ Try.func114 rfl (by simp [Try.ntmps114]) ?_
  rw [Try.ntmps114, TT.res_114]
  refine QW.view (s' := ⟨tab [(0, .d (.agg (cItem x0)))], tabH [], 0, []⟩) (View.init (by rfl)) zL ?_
  replace h := theC_get h
  obtain ⟨_, h⟩ := h
  obtain ⟨k_0, rfl, h9⟩ := run_succ h; replace h := h9; clear h9; rw [step_ref06_kid] at h
  refine sR ?_
  refine XK.fz (some 1) rfl rfl (sf_boxF (ds := cItem x0) rfl rfl rfl rfl rfl ?_)
  refine xa 2 (pS ([] : List UInt8)) ?_
  refine xz 3 (pB false) ?_
  refine sR ?_
  refine xs 5 rfl (sf_fldC rfl TT.fldA_125_1 (by decide) rfl ?_)
  refine xs 6 rfl (sf_ldC (d := .val (sV (x0.fS))) rfl TT.tyA_9 rfl (LdC.one) ?_)
  refine xz 4 (pS (x0.fS)) ?_
  refine QW.seqI (fun s' => ∃ v4 : (List UInt8), ∃ k : Nat, k ≤ k_0 ∧ run (step_ref06_kid self x0) k (.J1 v4) = some r ∧ s' = ⟨tab [(4, pS v4)], tabH [], 0, []⟩) ?_ ?_
  · refine sR ?_
    refine xs 7 rfl (sf_fldC rfl TT.fldA_125_0 (by decide) rfl ?_)
    refine xs 8 rfl (sf_ldC (d := .val (.bool (x0.fList))) rfl TT.tyA_4 rfl (LdC.one) ?_)
    refine XK.nz ?_
    refine QW.cond (t := x0.fList) rfl zL (fun hb_1 => ?_) (fun hb_1 => ?_)
    · replace h := bGT h hb_1
      refine sR ?_
      refine xs 9 rfl (sf_ldC (d := .agg (cItem x0)) rfl TT.tyA_125 rfl (⟨by simp [cItem], rfl⟩) ?_)
      obtain ⟨x_2, hx_3, h⟩ := bG h
      refine xs 10 rfl (sf_call rfl rfl TT.enters_151 rfl (sim_ref05_Put x0 _ hx_3) ?_)
      refine xz 4 (pS x_2) ?_
      refine sR ?_
      refine xm 11 (pS x_2) ?_
      refine xs 12 rfl (sf_lenS (l := x_2) rfl TT.under_9 rfl ?_)
      refine xs 13 rfl (sf_gtr (a := (x_2.length : Int)) (b := (31 : Int)) rfl rfl rfl ?_)
      refine XK.nz ?_
      refine QW.cond (t := (decide ((31 : Int) < (x_2.length : Int)))) rfl zL (fun hb_4 => ?_) (fun hb_4 => ?_)
      · replace h := bGT h hb_4
        refine sR ?_
        refine xa 2 (pS ([] : List UInt8)) ?_
        refine xz 3 (pB false) ?_
        refine QW.ret zL (thR ?_)
        obtain rfl := sG h
        exact Ends.more (.inr rfl) rfl (ps := [pS ([] : List UInt8), pB false]) (And.intro (ResIs.tmp rfl) (And.intro (ResIs.tmp rfl) trivial)) rfl rfl
      · replace h := bGF h hb_4
        refine QW.skip zL (nrm ?_)
        exact ⟨⟨tab [(4, pS x_2)], tabH [], 0, []⟩, View.mk 0 [] _ _ _ rfl rfl (by decide) (iC trivial) trivial rfl zL rfl, x_2, k_0, by omega, jG h, rfl⟩
    · replace h := bGF h hb_1
      refine QW.skip zL (nrm ?_)
      exact ⟨⟨tab [(4, pS (x0.fS))], tabH [], 0, []⟩, View.mk 0 [] _ _ _ rfl rfl (by decide) (iC trivial) trivial rfl zL rfl, x0.fS, k_0, by omega, jG h, rfl⟩
  · rintro _ ⟨v4, k_5s, k_5h, h, rfl⟩
    obtain ⟨k_5, rfl, h9⟩ := run_succ h; replace h := h9; clear h9; rw [step_ref06_kid] at h
    refine sR ?_
    refine xm 14 (pS v4) ?_
    refine xm 15 (pS v4) ?_
    obtain ⟨x_6, hx_7, h⟩ := bG h
    refine xs 16 rfl (sf_call rfl rfl TT.enters_48 rfl (hself v4 _ hx_7) ?_)
    refine xa 2 (pS v4) ?_
    refine xz 3 (pB x_6) ?_
    refine QW.ret zL ?_
    obtain rfl := sG h
    exact Ends.more (.inr rfl) rfl (ps := [pS v4, pB x_6]) (And.intro (ResIs.tmp rfl) (And.intro (ResIs.tmp rfl) trivial)) rfl rfl
noncomputable def g_ref06_text (s0 : (List UInt8)) : Option (List UInt8) :=
    ((g_ref05_Put (⟨false, s0, ([] : (List Item))⟩ : Item)).bind fun (x_1 : (List UInt8)) =>
    some x_1)
theorem sim_ref06_text (s0 : (List UInt8)) (r : (List UInt8)) (h : g_ref06_text s0 = some r) : Fun Try.prog 108 [.val (sV s0)] (.val (sV r)) := by
  refine Fun.of_bodyQ Try.func108 rfl (by simp [Try.ntmps108]) ?_
  rw [Try.ntmps108, TT.res_108]
  refine QW.view (s' := ⟨tab [(0, pS s0)], tabH [], 0, []⟩) (View.init (by rfl)) zL ?_
  unfold g_ref06_text at h
  refine sR ?_
  refine xz 2 (pS ([] : List UInt8)) ?_
  refine sR ?_
  refine xm 3 (pS s0) ?_
  refine xs 4 rfl (sf_bld (v := .agg [pB false, pS s0, .full (([] : (List Item)).map eItem)]) rfl TT.bldA_125 (build_of rfl (fill_step (cells' := [pB false, pS s0, .full (([] : (List Item)).map eItem)]) rfl rfl rfl bL rfl fill_nil)) ?_)
  obtain ⟨x_1, hx_2, h⟩ := bO h
  refine xs 5 rfl (sf_call rfl rfl TT.enters_151 rfl (sim_ref05_Put (⟨false, s0, ([] : (List Item))⟩ : Item) _ hx_2) ?_)
  refine xz 2 (pS x_1) ?_
  refine QW.ret zL ?_
  obtain rfl := sO h
  exact Ends.one (.inr rfl) rfl (ResIs.tmp rfl) rfl rfl
noncomputable def g_ref06_ref (s0 : (List UInt8)) : Option (List UInt8) :=
    (bif ((s0 == ([] : List UInt8)) || (decide ((s0.length : Int) = (32 : Int)))) then
    ((g_ref06_text s0).bind fun (x_2 : (List UInt8)) =>
    some x_2)
    else
    some s0)
theorem sim_ref06_ref (s0 : (List UInt8)) (r : (List UInt8)) (h : g_ref06_ref s0 = some r) : Fun Try.prog 110 [.val (sV s0)] (.val (sV r)) := by
  refine Fun.of_bodyQ Try.func110 rfl (by simp [Try.ntmps110]) ?_
  rw [Try.ntmps110, TT.res_110]
  refine QW.view (s' := ⟨tab [(0, pS s0)], tabH [], 0, []⟩) (View.init (by rfl)) zL ?_
  unfold g_ref06_ref at h
  refine sR ?_
  refine xz 2 (pS ([] : List UInt8)) ?_
  refine QW.seq ?_
  refine sR ?_
  refine xm 3 (pS s0) ?_
  refine xs 4 rfl (sf_seq (a := s0) (b := ([] : List UInt8)) rfl rfl rfl ?_)
  refine xm 5 (pB (s0 == ([] : List UInt8))) ?_
  refine xg 6 (pS s0) rfl rfl (fun hg => sf_move (v := pS s0) rfl rfl g3) ?_
  refine xg 7 (pI (s0.length : Int)) rfl rfl (fun hg => sf_lenS (l := s0) rfl TT.under_9 rfl g3) ?_
  refine xg 8 (pB (decide ((s0.length : Int) = (32 : Int)))) rfl rfl (fun hg => sf_eq (a := (s0.length : Int)) (b := (32 : Int)) rfl rfl rfl g3) ?_
  refine xs 9 rfl (sf_pickO rfl rfl rfl rfl (fun _ => rfl) (fun hb => by rw [hb]; rfl) ?_)
  refine XK.nz ?_
  refine QW.cond (t := ((s0 == ([] : List UInt8)) || (decide ((s0.length : Int) = (32 : Int))))) rfl zL (fun hb_1 => ?_) (fun hb_1 => ?_)
  · replace h := bT h hb_1
    refine sR ?_
    refine xm 10 (pS s0) ?_
    obtain ⟨x_2, hx_3, h⟩ := bO h
    refine xs 11 rfl (sf_call rfl rfl TT.enters_108 rfl (sim_ref06_text s0 _ hx_3) ?_)
    refine xz 2 (pS x_2) ?_
    refine QW.ret zL (thR ?_)
    obtain rfl := sO h
    exact Ends.one (.inr rfl) rfl (ResIs.tmp rfl) rfl rfl
  · replace h := bF h hb_1
    refine QW.skip zL (nrm ?_)
    refine sR ?_
    refine xm 12 (pS s0) ?_
    refine xz 2 (pS s0) ?_
    refine QW.ret zL ?_
    obtain rfl := sO h
    exact Ends.one (.inr rfl) rfl (ResIs.tmp rfl) rfl rfl
inductive C_ref06_Put where
  | S
  | L4 (v3_7 : (List UInt8)) (v4_2 : Int)
  | J3 (v3_5 : (List UInt8))
noncomputable def step_ref06_Put (n0 : Node) : C_ref06_Put → Option (C_ref06_Put ⊕ (List UInt8))
  | .S =>
    (((bif (decide ((n0.fKind) = (1 : Int))) then
    ((g_ref02_Pack (n0.fPath) true).bind fun (x_2 : (List UInt8)) =>
    ((g_ref06_text x_2).bind fun (x_4 : (List UInt8)) =>
    ((g_ref06_text (n0.fValue)).bind fun (x_6 : (List UInt8)) =>
    gO (x_4.length + x_6.length ≤ 9223372036854775807) (
    some (x_4 ++ x_6)))))
    else
    some ([] : List UInt8)) : Option (List UInt8)).bind fun (v3 : (List UInt8)) =>
    (((bif (decide ((n0.fKind) = (2 : Int))) then
    ((g_ref02_Pack (n0.fPath) false).bind fun (x_10 : (List UInt8)) =>
    ((g_ref06_text x_10).bind fun (x_12 : (List UInt8)) =>
    ((g_ref06_ref (idx (n0.fKids).1 (0 : Int))).bind fun (x_14 : (List UInt8)) =>
    gO (x_12.length + x_14.length ≤ 9223372036854775807) (
    some (x_12 ++ x_14)))))
    else
    some v3) : Option (List UInt8)).bind fun (v3_2 : (List UInt8)) =>
    (bif (decide ((n0.fKind) = (3 : Int))) then
    some (.inl (.L4 v3_2 (0)))
    else
    some (.inl (.J3 v3_2)))))
  | .L4 v3_7 v4_2 =>
    (bif (decide (v4_2 < (16 : Int))) then
    gO (0 ≤ v4_2 ∧ v4_2 < ((16 : Nat) : Int)) (
    ((g_ref06_ref (idx (n0.fKids).1 v4_2)).bind fun (x_21 : (List UInt8)) =>
    gO (v3_7.length + x_21.length ≤ 9223372036854775807) (
    gO (inI (v4_2 + (1 : Int))) (
    some (.inl (.L4 (v3_7 ++ x_21) (v4_2 + (1 : Int))))))))
    else
    gO (v3_7.length + ([128] : List UInt8).length ≤ 9223372036854775807) (
    some (.inl (.J3 (v3_7 ++ ([128] : List UInt8))))))
  | .J3 v3_5 =>
    ((g_ref05_Head (v3_5.length : Int) true).bind fun (x_27 : (List UInt8)) =>
    gO (x_27.length + v3_5.length ≤ 9223372036854775807) (
    some (.inr (x_27 ++ v3_5))))
noncomputable def g_ref06_Put (n0 : Node) : Option (List UInt8) := theC (step_ref06_Put n0) .S
theorem sim_ref06_Put (n0 : Node) (r : (List UInt8)) (h : g_ref06_Put n0 = some r) : Fun Try.prog 38 [.agg (cNode n0)] (.val (sV r)) := by
  refine Fun.of_bodyQ Try.func38 rfl (by simp [Try.ntmps38]) ?_
  rw [Try.ntmps38, TT.res_38]
  refine QW.view (s' := ⟨tab [(0, .d (.agg (cNode n0)))], tabH [], 0, []⟩) (View.init (by rfl)) zL ?_
  replace h := theC_get h
  obtain ⟨_, h⟩ := h
  obtain ⟨k_0, rfl, h9⟩ := run_succ h; replace h := h9; clear h9; rw [step_ref06_Put] at h
  refine sR ?_
  refine XK.fz (some 1) rfl rfl (sf_boxF (ds := cNode n0) rfl rfl rfl rfl toDs_map ?_)
  refine xz 2 (pS ([] : List UInt8)) ?_
  refine sR ?_
  refine xz 3 (pS ([] : List UInt8)) ?_
  obtain ⟨v3, hq, h⟩ := bG h
  refine QW.seqI (fun s' => s' = ⟨tab [(1, .d (.cptr (cNode n0))), (3, pS v3)], tabH [], 0, []⟩) ?_ ?_
  · replace h := hq; clear hq
    refine sR ?_
    refine xs 5 rfl (sf_fldC rfl TT.fldA_52_0 (by decide) rfl ?_)
    refine xs 6 rfl (sf_ldC (d := .val (.int .i64 (n0.fKind))) rfl TT.tyA_3 rfl (ldc_Node_0 _) ?_)
    refine xs 7 rfl (sf_eq (a := (n0.fKind)) (b := (1 : Int)) rfl rfl rfl ?_)
    refine XK.nz ?_
    refine QW.cond (t := (decide ((n0.fKind) = (1 : Int)))) rfl zL (fun hb_1 => ?_) (fun hb_1 => ?_)
    · replace h := bT h hb_1
      refine QW.region zL (PW.regQ (id := 3) mixedX (M := _) rfl (by kernel_rfl) ?_)
      refine RQ.st (some 8) rfl rfl (sf_fldC rfl TT.fldA_52_1 (by decide) rfl ⟨⟨rfl, rfl⟩, ?_⟩)
      refine RQ.st (some 9) rfl rfl (sf_ldC (d := .slice ((n0.fPath).map byteD)) rfl TT.tyA_49 rfl (ldc_Node_1 _) ⟨⟨rfl, rfl⟩, ?_⟩)
      obtain ⟨x_2, hx_3, h⟩ := bO h
      refine RQ.st (some 10) rfl rfl (sf_call rfl rfl TT.enters_109 rfl (sim_ref02_Pack (n0.fPath) true _ hx_3) ⟨⟨rfl, rfl⟩, ?_⟩)
      obtain ⟨x_4, hx_5, h⟩ := bO h
      refine RQ.st (some 11) rfl rfl (sf_call rfl rfl TT.enters_108 rfl (sim_ref06_text x_2 _ hx_5) ⟨⟨rfl, rfl⟩, ?_⟩)
      refine RQ.st (some 12) rfl rfl (sf_fldC rfl TT.fldA_52_2 (by decide) rfl ⟨⟨rfl, rfl⟩, ?_⟩)
      refine RQ.st (some 13) rfl rfl (sf_ldC (d := .val (sV (n0.fValue))) rfl TT.tyA_9 rfl (ldc_Node_2 _) ⟨⟨rfl, rfl⟩, ?_⟩)
      obtain ⟨x_6, hx_7, h⟩ := bO h
      refine RQ.st (some 14) rfl rfl (sf_call rfl rfl TT.enters_108 rfl (sim_ref06_text (n0.fValue) _ hx_7) ⟨⟨rfl, rfl⟩, ?_⟩)
      obtain ⟨c_8, h⟩ := gO_get h
      refine RQ.st (some 15) rfl rfl (sf_cat (a := x_4) (b := x_6) rfl rfl rfl c_8 ⟨⟨rfl, rfl⟩, ?_⟩)
      refine RQ.st (some 3) rfl rfl (sf_assign (v := pS (x_4 ++ x_6)) rfl rfl ⟨⟨rfl, rfl⟩, ?_⟩)
      refine RQ.nil (nrm ?_)
      obtain rfl := sO h
      exact ⟨⟨tab [(1, .d (.cptr (cNode n0))), (3, pS (x_4 ++ x_6))], tabH [], 0, []⟩, View.mk 0 [] _ _ _ rfl rfl (by decide) (iC (iC trivial)) trivial rfl zL rfl, rfl⟩
    · replace h := bF h hb_1
      refine QW.skip zL (nrm ?_)
      obtain rfl := sO h
      exact ⟨⟨tab [(1, .d (.cptr (cNode n0))), (3, pS ([] : List UInt8))], tabH [], 0, []⟩, View.mk 0 [] _ _ _ rfl rfl (by decide) (iC (iC trivial)) trivial rfl zL rfl, rfl⟩
  · rintro _ rfl
    obtain ⟨v3_2, hq, h⟩ := bG h
    refine QW.seqI (fun s' => s' = ⟨tab [(1, .d (.cptr (cNode n0))), (3, pS v3_2)], tabH [], 0, []⟩) ?_ ?_
    · replace h := hq; clear hq
      refine sR ?_
      refine xs 16 rfl (sf_fldC rfl TT.fldA_52_0 (by decide) rfl ?_)
      refine xs 17 rfl (sf_ldC (d := .val (.int .i64 (n0.fKind))) rfl TT.tyA_3 rfl (ldc_Node_0 _) ?_)
      refine xs 18 rfl (sf_eq (a := (n0.fKind)) (b := (2 : Int)) rfl rfl rfl ?_)
      refine XK.nz ?_
      refine QW.cond (t := (decide ((n0.fKind) = (2 : Int)))) rfl zL (fun hb_9 => ?_) (fun hb_9 => ?_)
      · replace h := bT h hb_9
        refine QW.region zL (PW.regQ (id := 5) mixedX (M := _) rfl (by kernel_rfl) ?_)
        refine RQ.st (some 19) rfl rfl (sf_fldC rfl TT.fldA_52_1 (by decide) rfl ⟨⟨rfl, rfl⟩, ?_⟩)
        refine RQ.st (some 20) rfl rfl (sf_ldC (d := .slice ((n0.fPath).map byteD)) rfl TT.tyA_49 rfl (ldc_Node_1 _) ⟨⟨rfl, rfl⟩, ?_⟩)
        obtain ⟨x_10, hx_11, h⟩ := bO h
        refine RQ.st (some 21) rfl rfl (sf_call rfl rfl TT.enters_109 rfl (sim_ref02_Pack (n0.fPath) false _ hx_11) ⟨⟨rfl, rfl⟩, ?_⟩)
        obtain ⟨x_12, hx_13, h⟩ := bO h
        refine RQ.st (some 22) rfl rfl (sf_call rfl rfl TT.enters_108 rfl (sim_ref06_text x_10 _ hx_13) ⟨⟨rfl, rfl⟩, ?_⟩)
        refine RQ.st (some 23) rfl rfl (sf_fldC rfl TT.fldA_52_3 (by decide) rfl ⟨⟨rfl, rfl⟩, ?_⟩)
        refine RQ.st (some 24) rfl rfl (sf_idxC (i := (0 : Int)) rfl TT.slcA_50 TT.arrA_50 rfl rfl (by decide) ⟨⟨rfl, rfl⟩, ?_⟩)
        refine RQ.st (some 25) rfl rfl (sf_ldC (d := .val (sV (idx (n0.fKids).1 (0 : Int)))) rfl TT.tyA_9 rfl (ld_arr (pre_Node_3 _) (by decide)) ⟨⟨rfl, rfl⟩, ?_⟩)
        obtain ⟨x_14, hx_15, h⟩ := bO h
        refine RQ.st (some 26) rfl rfl (sf_call rfl rfl TT.enters_110 rfl (sim_ref06_ref (idx (n0.fKids).1 (0 : Int)) _ hx_15) ⟨⟨rfl, rfl⟩, ?_⟩)
        obtain ⟨c_16, h⟩ := gO_get h
        refine RQ.st (some 27) rfl rfl (sf_cat (a := x_12) (b := x_14) rfl rfl rfl c_16 ⟨⟨rfl, rfl⟩, ?_⟩)
        refine RQ.st (some 3) rfl rfl (sf_assign (v := pS (x_12 ++ x_14)) rfl rfl ⟨⟨rfl, rfl⟩, ?_⟩)
        refine RQ.nil (nrm ?_)
        obtain rfl := sO h
        exact ⟨⟨tab [(1, .d (.cptr (cNode n0))), (3, pS (x_12 ++ x_14))], tabH [], 0, []⟩, View.mk 0 [] _ _ _ rfl rfl (by decide) (iC (iC trivial)) trivial rfl zL rfl, rfl⟩
      · replace h := bF h hb_9
        refine QW.skip zL (nrm ?_)
        obtain rfl := sO h
        exact ⟨⟨tab [(1, .d (.cptr (cNode n0))), (3, pS v3)], tabH [], 0, []⟩, View.mk 0 [] _ _ _ rfl rfl (by decide) (iC (iC trivial)) trivial rfl zL rfl, rfl⟩
    · rintro _ rfl
      refine QW.seqI (fun s' => ∃ v3_5 : (List UInt8), ∃ k : Nat, k ≤ k_0 ∧ run (step_ref06_Put n0) k (.J3 v3_5) = some r ∧ s' = ⟨tab [(3, pS v3_5)], tabH [], 0, []⟩) ?_ ?_
      · refine sR ?_
        refine xs 28 rfl (sf_fldC rfl TT.fldA_52_0 (by decide) rfl ?_)
        refine xs 29 rfl (sf_ldC (d := .val (.int .i64 (n0.fKind))) rfl TT.tyA_3 rfl (ldc_Node_0 _) ?_)
        refine xs 30 rfl (sf_eq (a := (n0.fKind)) (b := (3 : Int)) rfl rfl rfl ?_)
        refine XK.nz ?_
        refine QW.cond (t := (decide ((n0.fKind) = (3 : Int)))) rfl zL (fun hb_17 => ?_) (fun hb_17 => ?_)
        · replace h := bGT h hb_17
          refine QW.seq ?_
          refine sR ?_
          refine xz 4 (pI (0)) ?_
          refine QW.block ?_
          refine QW.loop (fun k σ => ∃ v3_7 : (List UInt8), ∃ v4_2 : Int, k ≤ k_0 ∧ run (step_ref06_Put n0) k (.L4 v3_7 v4_2) = some r ∧ σ = ⟨tab [(1, .d (.cptr (cNode n0))), (3, pS v3_7), (4, pI v4_2)], tabH [], 0, []⟩) k_0 zL ⟨⟨tab [(1, .d (.cptr (cNode n0))), (3, pS v3_2), (4, pI (0))], tabH [], 0, []⟩, View.mk 0 [] _ _ _ rfl rfl (by decide) (iC (iC (iC trivial))) trivial rfl zL rfl, v3_2, 0, Nat.le_refl _, jG h, rfl⟩ ?_
          rintro k_18s _ ⟨v3_7, v4_2, k_18h, h, rfl⟩
          obtain ⟨k_18, rfl, h9⟩ := run_succ h; replace h := h9; clear h9; rw [step_ref06_Put] at h
          refine QW.seq ?_
          refine sR ?_
          refine xm 31 (pI v4_2) ?_
          refine xs 32 rfl (sf_lss (a := v4_2) (b := (16 : Int)) rfl rfl rfl ?_)
          refine XK.nz ?_
          refine QW.cond (t := (decide (v4_2 < (16 : Int)))) rfl zL (fun hb_19 => ?_) (fun hb_19 => ?_)
          · replace h := bGT h hb_19
            refine QW.skip zL (nrm ?_)
            refine QW.seq ?_
            refine QW.block ?_
            refine rG ?_
            refine xm 35 (pS v3_7) ?_
            refine xm 36 (pI v4_2) ?_
            refine xs 37 rfl (sf_fldC rfl TT.fldA_52_3 (by decide) rfl ?_)
            obtain ⟨c_20, h⟩ := gG h
            refine xs 38 rfl (sf_idxC (i := v4_2) rfl TT.slcA_50 TT.arrA_50 rfl rfl c_20 ?_)
            refine xs 39 rfl (sf_ldC (d := .val (sV (idx (n0.fKids).1 v4_2))) rfl TT.tyA_9 rfl (ld_arr (pre_Node_3 _) c_20) ?_)
            obtain ⟨x_21, hx_22, h⟩ := bG h
            refine xs 40 rfl (sf_call rfl rfl TT.enters_110 rfl (sim_ref06_ref (idx (n0.fKids).1 v4_2) _ hx_22) ?_)
            obtain ⟨c_23, h⟩ := gG h
            refine xs 41 rfl (sf_cat (a := v3_7) (b := x_21) rfl rfl rfl c_23 ?_)
            refine xa 3 (pS (v3_7 ++ x_21)) ?_
            refine XK.nil (blN (nrm ?_))
            refine rG ?_
            refine xm 33 (pI v4_2) ?_
            obtain ⟨c_24, h⟩ := gG h
            refine xs 34 rfl (sf_add (a := v4_2) (b := (1 : Int)) rfl rfl rfl c_24 ?_)
            refine xz 4 (pI (v4_2 + (1 : Int))) ?_
            exact ⟨k_18, by omega, ⟨tab [(1, .d (.cptr (cNode n0))), (3, pS (v3_7 ++ x_21)), (4, pI (v4_2 + (1 : Int)))], tabH [], 0, []⟩, View.mk 0 [] _ _ _ rfl rfl (by decide) (iC (iC (iC trivial))) trivial rfl zL rfl, (v3_7 ++ x_21), (v4_2 + (1 : Int)), by omega, jG h, rfl⟩
          · replace h := bGF h hb_19
            refine QW.exit zL (thX (thX (exE (nrm ?_))))
            refine rG ?_
            refine xm 42 (pS v3_7) ?_
            obtain ⟨c_25, h⟩ := gG h
            refine xs 43 rfl (sf_cat (a := v3_7) (b := ([128] : List UInt8)) rfl rfl rfl c_25 ?_)
            refine xz 3 (pS (v3_7 ++ ([128] : List UInt8))) ?_
            exact ⟨⟨tab [(3, pS (v3_7 ++ ([128] : List UInt8)))], tabH [], 0, []⟩, View.mk 0 [] _ _ _ rfl rfl (by decide) (iC trivial) trivial rfl zL rfl, (v3_7 ++ ([128] : List UInt8)), k_18, by omega, jG h, rfl⟩
        · replace h := bGF h hb_17
          refine QW.skip zL (nrm ?_)
          exact ⟨⟨tab [(3, pS v3_2)], tabH [], 0, []⟩, View.mk 0 [] _ _ _ rfl rfl (by decide) (iC trivial) trivial rfl zL rfl, v3_2, k_0, by omega, jG h, rfl⟩
      · rintro _ ⟨v3_5, k_26s, k_26h, h, rfl⟩
        obtain ⟨k_26, rfl, h9⟩ := run_succ h; replace h := h9; clear h9; rw [step_ref06_Put] at h
        refine sR ?_
        refine xm 44 (pS v3_5) ?_
        refine xs 45 rfl (sf_lenS (l := v3_5) rfl TT.under_9 rfl ?_)
        obtain ⟨x_27, hx_28, h⟩ := bG h
        refine xs 46 rfl (sf_call rfl rfl TT.enters_111 rfl (sim_ref05_Head (v3_5.length : Int) true _ hx_28) ?_)
        refine xm 47 (pS v3_5) ?_
        obtain ⟨c_29, h⟩ := gG h
        refine xs 48 rfl (sf_cat (a := x_27) (b := v3_5) rfl rfl rfl c_29 ?_)
        refine xz 2 (pS (x_27 ++ v3_5)) ?_
        refine QW.ret zL ?_
        obtain rfl := sG h
        exact Ends.one (.inr rfl) rfl (ResIs.tmp rfl) rfl rfl
inductive C_ref06_Get where
  | S
  | L1 (v14 : Int) (v4_0_2 : Bool) (v4_1_2 : (List UInt8)) (v4_2_2 : (List Item)) (v8_3 : (Arr 16 (List UInt8)))
noncomputable def step_ref06_Get (self : (List UInt8) → Option Bool) (s0 : (List UInt8)) : C_ref06_Get → Option (C_ref06_Get ⊕ (Node × Bool))
  | .S =>
    ((g_ref05_Read s0 (0) (4096)).bind fun (x_1 : (Item × Int × Int × Int)) =>
    (bif (((!decide ((x_1.2.2.2) = (0 : Int))) || (!decide ((x_1.2.1) = (s0.length : Int)))) || ((!decide ((((x_1.1).fL).length : Int) = (2 : Int))) && (!decide ((((x_1.1).fL).length : Int) = (17 : Int))))) then
    some (.inr ((⟨0, ([] : (List UInt8)), ([] : List UInt8), (Arr.rep 16 ([] : (List UInt8)))⟩ : Node), false))
    else
    (bif (decide ((((x_1.1).fL).length : Int) = (2 : Int))) then
    gO (0 ≤ (0 : Int) ∧ (0 : Int) < (((x_1.1).fL).length : Int)) (
    ((g_ref06_path ((idx ((x_1.1).fL) (0 : Int)).fS)).bind fun (x_6 : ((List UInt8) × Bool × Bool)) =>
    gO ((!(x_6).2.2) = false → 0 ≤ (0 : Int) ∧ (0 : Int) < (((x_1.1).fL).length : Int)) (
    (bif ((!(x_6).2.2) || (idx ((x_1.1).fL) (0 : Int)).fList) then
    some (.inr ((⟨0, ([] : (List UInt8)), ([] : List UInt8), (Arr.rep 16 ([] : (List UInt8)))⟩ : Node), false))
    else
    (bif x_6.2.1 then
    gO (0 ≤ (1 : Int) ∧ (1 : Int) < (((x_1.1).fL).length : Int)) (
    gO (0 ≤ (1 : Int) ∧ (1 : Int) < (((x_1.1).fL).length : Int)) (
    ((bif ((!(idx ((x_1.1).fL) (1 : Int)).fList) == true) then gs_ref06_May self (⟨1, x_6.1, (idx ((x_1.1).fL) (1 : Int)).fS, (Arr.rep 16 ([] : (List UInt8)))⟩ : Node) else some default).bind fun (x_13 : Bool) =>
    some (.inr ((⟨1, x_6.1, (idx ((x_1.1).fL) (1 : Int)).fS, (Arr.rep 16 ([] : (List UInt8)))⟩ : Node), ((!(idx ((x_1.1).fL) (1 : Int)).fList) && x_13))))))
    else
    gO (0 ≤ (1 : Int) ∧ (1 : Int) < (((x_1.1).fL).length : Int)) (
    ((gs_ref06_kid self (idx ((x_1.1).fL) (1 : Int))).bind fun (x_16 : ((List UInt8) × Bool)) =>
    ((bif (x_16.2 == true) then gs_ref06_May self (⟨2, x_6.1, ([] : List UInt8), ((Arr.rep 16 ([] : (List UInt8))).put (0 : Int) (x_16.1))⟩ : Node) else some default).bind fun (x_18 : Bool) =>
    ((bif ((x_16.2 && x_18) == true) then g_ref06_Put (⟨2, x_6.1, ([] : List UInt8), ((Arr.rep 16 ([] : (List UInt8))).put (0 : Int) (x_16.1))⟩ : Node) else some default).bind fun (x_20 : (List UInt8)) =>
    some (.inr ((⟨2, x_6.1, ([] : List UInt8), ((Arr.rep 16 ([] : (List UInt8))).put (0 : Int) (x_16.1))⟩ : Node), ((x_16.2 && x_18) && (x_20 == s0)))))))))))))
    else
    some (.inl (.L1 (0) ((x_1.1).fList) ((x_1.1).fS) ((x_1.1).fL) (Arr.rep 16 ([] : (List UInt8))))))))
  | .L1 v14 v4_0_2 v4_1_2 v4_2_2 v8_3 =>
    (bif (decide (v14 < (16 : Int))) then
    gO (0 ≤ v14 ∧ v14 < (v4_2_2.length : Int)) (
    ((gs_ref06_kid self (idx v4_2_2 v14)).bind fun (x_25 : ((List UInt8) × Bool)) =>
    (bif (!(x_25).2) then
    some (.inr ((⟨0, ([] : (List UInt8)), ([] : List UInt8), (Arr.rep 16 ([] : (List UInt8)))⟩ : Node), false))
    else
    gO (0 ≤ v14 ∧ v14 < ((16 : Nat) : Int)) (
    gO (inI (v14 + (1 : Int))) (
    some (.inl (.L1 (v14 + (1 : Int)) v4_0_2 v4_1_2 v4_2_2 (v8_3.put v14 (x_25.1)))))))))
    else
    ((gs_ref06_May self (⟨3, ([] : (List UInt8)), ([] : List UInt8), v8_3⟩ : Node)).bind fun (x_30 : Bool) =>
    ((bif (x_30 == true) then g_ref06_Put (⟨3, ([] : (List UInt8)), ([] : List UInt8), v8_3⟩ : Node) else some default).bind fun (x_32 : (List UInt8)) =>
    some (.inr ((⟨3, ([] : (List UInt8)), ([] : List UInt8), v8_3⟩ : Node), (x_30 && (x_32 == s0)))))))
noncomputable def gs_ref06_Get (self : (List UInt8) → Option Bool) (s0 : (List UInt8)) : Option (Node × Bool) := theC (step_ref06_Get self s0) .S
theorem sims_ref06_Get (self : (List UInt8) → Option Bool) (hself : ∀ (y0 : (List UInt8)) (rr : Bool), self y0 = some rr → Fun Try.prog 48 [.val (sV y0)] (.val (.bool rr))) (s0 : (List UInt8)) (r : (Node × Bool)) (h : gs_ref06_Get self s0 = some r) : Fun Try.prog 40 [.val (sV s0)] (.tuple [.agg (cNode (r.1)), .val (.bool (r.2))]) := by
  refine Fun.of_bodyQ Try.func40 rfl (by simp [Try.ntmps40]) ?_
  rw [Try.ntmps40, TT.res_40]
  refine QW.view (s' := ⟨tab [(0, pS s0)], tabH [], 0, []⟩) (View.init (by rfl)) zL ?_
  replace h := theC_get h
  obtain ⟨_, h⟩ := h
  obtain ⟨k_0, rfl, h9⟩ := run_succ h; replace h := h9; clear h9; rw [step_ref06_Get] at h
  refine sR ?_
  refine xs 2 rfl (sf_alloc (l := (([pI (0), .full (([] : (List UInt8)).map byteD), pS ([] : List UInt8)]) ++ (((Arr.rep 16 ([] : (List UInt8))).1.map eS).map PV.d))) rfl TT.zeroA_52 rfl rfl ?_)
  refine xz 3 (pB false) ?_
  refine sR ?_
  refine xm 18 (pS s0) ?_
  obtain ⟨x_1, hx_2, h⟩ := bG h
  refine xs 19 rfl (sf_call rfl rfl TT.enters_112 rfl (sim_ref05_Read s0 (0) (4096) _ hx_2) ?_)
  refine xm 17 (.d (.tuple [.agg (cItem (x_1.1)), .val (.int .i64 (x_1.2.1)), .val (.int .i64 (x_1.2.2.1)), .val (.int .i64 (x_1.2.2.2))])) ?_
  refine xs 20 rfl (sf_extract rfl rfl rfl ?_)
  refine xs 21 rfl (sf_extract rfl rfl rfl ?_)
  refine xs 22 rfl (sf_extract rfl rfl rfl ?_)
  refine xs 23 rfl (sf_extract rfl rfl rfl ?_)
  refine xs 4 rfl (sf_alloc (l := [pB false, pS ([] : List UInt8), .full (([] : (List Item)).map eItem)]) rfl TT.zeroA_125 rfl rfl ?_)
  refine XK.st none rfl rfl (sf_stV (l' := [pB ((x_1.1).fList), pS ((x_1.1).fS), .d (.slice (((x_1.1).fL).map eItem))]) rfl TT.tyA_125 rfl rfl rfl rfl rfl rfl (by simp) rfl ?_)
  refine xa 5 (pI (x_1.2.1)) ?_
  refine xa 6 (pI (x_1.2.2.1)) ?_
  refine xz 7 (pI (x_1.2.2.2)) ?_
  refine QW.seq ?_
  refine sR ?_
  refine xm 24 (pI (x_1.2.2.2)) ?_
  refine xs 25 rfl (sf_ne (a := (x_1.2.2.2)) (b := (0 : Int)) rfl rfl rfl ?_)
  refine xm 26 (pB (!decide ((x_1.2.2.2) = (0 : Int)))) ?_
  refine xg 27 (pI (x_1.2.1)) rfl rfl (fun hg => sf_move (v := pI (x_1.2.1)) rfl rfl g3) ?_
  refine xg 28 (pS s0) rfl rfl (fun hg => sf_move (v := pS s0) rfl rfl g3) ?_
  refine xg 29 (pI (s0.length : Int)) rfl rfl (fun hg => sf_lenS (l := s0) rfl TT.under_9 rfl g3) ?_
  refine xg 30 (pB (!decide ((x_1.2.1) = (s0.length : Int)))) rfl rfl (fun hg => sf_ne (a := (x_1.2.1)) (b := (s0.length : Int)) rfl rfl rfl g3) ?_
  refine xs 31 rfl (sf_pickO rfl rfl rfl rfl (fun _ => rfl) (fun hb => by rw [hb]; rfl) ?_)
  refine xm 32 (pB ((!decide ((x_1.2.2.2) = (0 : Int))) || (!decide ((x_1.2.1) = (s0.length : Int))))) ?_
  refine xg 33 (.vptr 1 2) rfl rfl (fun hg => sf_fldV rfl TT.fldA_125_2 (by decide) rfl g3) ?_
  refine XK.gd (v := .d (.slice (((x_1.1).fL).map eItem))) (T := [1]) (some 34) rfl rfl (by repeat (first | exact trivial | refine ⟨fun q => by first | rfl | exact q | exact cda q | exact cdb q, ?_⟩)) (fun hg => sf_ldV (v := .d (.slice (((x_1.1).fL).map eItem))) rfl TT.tyA_123 rfl rfl ⟨⟨by simp, by simp⟩, rfl⟩ g3) (fun _ i hi => by simp only [List.mem_singleton] at hi; subst hi; decide) ?_
  refine xg 35 (pI (((x_1.1).fL).length : Int)) rfl rfl (fun hg => sf_lenL (en := eItem) (l := (x_1.1).fL) rfl TT.under_123 rfl g3) ?_
  refine xg 36 (pB (!decide ((((x_1.1).fL).length : Int) = (2 : Int)))) rfl rfl (fun hg => sf_ne (a := (((x_1.1).fL).length : Int)) (b := (2 : Int)) rfl rfl rfl g3) ?_
  refine xg 37 (pB (!decide ((((x_1.1).fL).length : Int) = (2 : Int)))) rfl rfl (fun hg => sf_move (v := pB (!decide ((((x_1.1).fL).length : Int) = (2 : Int)))) rfl rfl g3) ?_
  refine xg 38 (.vptr 1 2) rfl rfl (fun hg => sf_fldV rfl TT.fldA_125_2 (by decide) rfl g3) ?_
  refine XK.gd (v := .d (.slice (((x_1.1).fL).map eItem))) (T := [1]) (some 39) rfl rfl (by repeat (first | exact trivial | refine ⟨fun q => by first | rfl | exact q | exact cda q | exact cdb q, ?_⟩)) (fun hg => sf_ldV (v := .d (.slice (((x_1.1).fL).map eItem))) rfl TT.tyA_123 rfl rfl ⟨⟨by simp, by simp⟩, rfl⟩ g3) (fun _ i hi => by simp only [List.mem_singleton] at hi; subst hi; decide) ?_
  refine xg 40 (pI (((x_1.1).fL).length : Int)) rfl rfl (fun hg => sf_lenL (en := eItem) (l := (x_1.1).fL) rfl TT.under_123 rfl g3) ?_
  refine xg 41 (pB (!decide ((((x_1.1).fL).length : Int) = (17 : Int)))) rfl rfl (fun hg => sf_ne (a := (((x_1.1).fL).length : Int)) (b := (17 : Int)) rfl rfl rfl g3) ?_
  refine XK.gp (some 42) rfl rfl rfl rfl rfl rfl (fun h => h) (fun hg hb => by first | (rw [hg, hb]; rfl) | (simp only [hg, hb]; rfl) | simp_all) (fun _ _ => rfl) ((!decide ((((x_1.1).fL).length : Int) = (2 : Int))) && (!decide ((((x_1.1).fL).length : Int) = (17 : Int)))) (bif_and _ _) ?_
  refine xs 43 rfl (sf_pickO rfl rfl rfl rfl (fun _ => rfl) (fun hb => by rw [hb]; rfl) ?_)
  refine XK.nz ?_
  refine QW.cond (t := (((!decide ((x_1.2.2.2) = (0 : Int))) || (!decide ((x_1.2.1) = (s0.length : Int)))) || ((!decide ((((x_1.1).fL).length : Int) = (2 : Int))) && (!decide ((((x_1.1).fL).length : Int) = (17 : Int)))))) rfl zL (fun hb_3 => ?_) (fun hb_3 => ?_)
  · replace h := bGT h hb_3
    refine sR ?_
    refine xs 44 rfl (sf_bld (v := .agg (([pI (0), .full (([] : (List UInt8)).map byteD), pS ([] : List UInt8)]) ++ (((Arr.rep 16 ([] : (List UInt8))).1.map eS).map PV.d))) rfl TT.bldA_52 (build_of rfl fill_nil) ?_)
    refine XK.st none rfl rfl (sf_stV (c := (([pI (0), .full (([] : (List UInt8)).map byteD), pS ([] : List UInt8)]) ++ (((Arr.rep 16 ([] : (List UInt8))).1.map eS).map PV.d))) (l' := (([pI (0), .full (([] : (List UInt8)).map byteD), pS ([] : List UInt8)]) ++ (((Arr.rep 16 ([] : (List UInt8))).1.map eS).map PV.d))) rfl TT.tyA_52 rfl rfl rfl rfl rfl (len_app (A := [pI (0), .full (([] : (List UInt8)).map byteD), pS ([] : List UInt8)]) (b := 16) rfl (len_map2 _) rfl) (le_of_len (len_app (A := [pI (0), .full (([] : (List UInt8)).map byteD), pS ([] : List UInt8)]) (b := 16) rfl (len_map2 _) rfl) bL) (spl_same ((len_app (A := [pI (0), .full (([] : (List UInt8)).map byteD), pS ([] : List UInt8)]) (b := 16) rfl (len_map2 _) rfl).trans (len_app (A := [pI (0), .full (([] : (List UInt8)).map byteD), pS ([] : List UInt8)]) (b := 16) rfl (len_map2 _) rfl).symm)) ?_)
    refine xz 3 (pB false) ?_
    refine QW.ret zL (thR ?_)
    obtain rfl := sG h
    exact Ends.more (.inr rfl) rfl (ps := [.agg (([pI (0), .full (([] : (List UInt8)).map byteD), pS ([] : List UInt8)]) ++ (((Arr.rep 16 ([] : (List UInt8))).1.map eS).map PV.d)), pB false]) (And.intro (ResIs.cell rfl rfl TT.tyA_52 (ldv_whole (len_app (A := [pI (0), .full (([] : (List UInt8)).map byteD), pS ([] : List UInt8)]) (b := 16) rfl (len_map2 _) rfl) (Nat.succ_pos _))) (And.intro (ResIs.tmp rfl) trivial)) (by simp only [PV.toD, PV.toDs, toDs_appS, toDs_map, Option.bind_some, Option.map_some, cNode] <;> rfl) rfl
  · replace h := bGF h hb_3
    refine QW.skip zL (nrm ?_)
    refine sR ?_
    refine xs 45 rfl (sf_bld (v := .agg (([pI (3), .full (([] : (List UInt8)).map byteD), pS ([] : List UInt8)]) ++ (((Arr.rep 16 ([] : (List UInt8))).1.map eS).map PV.d))) rfl TT.bldA_52 (build_of rfl (fill_step (p := pI (3)) (cells := (([pI (0), .full (([] : (List UInt8)).map byteD), pS ([] : List UInt8)]) ++ (((Arr.rep 16 ([] : (List UInt8))).1.map eS).map PV.d))) (cells' := (([pI (3), .full (([] : (List UInt8)).map byteD), pS ([] : List UInt8)]) ++ (((Arr.rep 16 ([] : (List UInt8))).1.map eS).map PV.d))) rfl rfl rfl (le_of_len (len_app (A := [pI (0), .full (([] : (List UInt8)).map byteD), pS ([] : List UInt8)]) (b := 16) rfl (len_map2 _) rfl) bL) (spl_left 0 (by first | exact Nat.le_of_ble_eq_true rfl | simp) rfl) fill_nil)) ?_)
    refine xs 8 rfl (sf_alloc (l := (([pI (0), .full (([] : (List UInt8)).map byteD), pS ([] : List UInt8)]) ++ (((Arr.rep 16 ([] : (List UInt8))).1.map eS).map PV.d))) rfl TT.zeroA_52 rfl rfl ?_)
    refine XK.st none rfl rfl (sf_stV (c := (([pI (3), .full (([] : (List UInt8)).map byteD), pS ([] : List UInt8)]) ++ (((Arr.rep 16 ([] : (List UInt8))).1.map eS).map PV.d))) (l' := (([pI (3), .full (([] : (List UInt8)).map byteD), pS ([] : List UInt8)]) ++ (((Arr.rep 16 ([] : (List UInt8))).1.map eS).map PV.d))) rfl TT.tyA_52 rfl rfl rfl rfl rfl (len_app (A := [pI (3), .full (([] : (List UInt8)).map byteD), pS ([] : List UInt8)]) (b := 16) rfl (len_map2 _) rfl) (le_of_len (len_app (A := [pI (0), .full (([] : (List UInt8)).map byteD), pS ([] : List UInt8)]) (b := 16) rfl (len_map2 _) rfl) bL) (spl_same ((len_app (A := [pI (0), .full (([] : (List UInt8)).map byteD), pS ([] : List UInt8)]) (b := 16) rfl (len_map2 _) rfl).trans (len_app (A := [pI (3), .full (([] : (List UInt8)).map byteD), pS ([] : List UInt8)]) (b := 16) rfl (len_map2 _) rfl).symm)) ?_)
    refine XK.nz ?_
    refine QW.seq ?_
    refine sR ?_
    refine xs 46 rfl (sf_fldV rfl TT.fldA_125_2 (by decide) rfl ?_)
    refine xs 47 rfl (sf_ldV (v := .d (.slice (((x_1.1).fL).map eItem))) rfl TT.tyA_123 rfl rfl ⟨⟨by simp, by simp⟩, rfl⟩ ?_)
    refine xs 48 rfl (sf_lenL (en := eItem) (l := (x_1.1).fL) rfl TT.under_123 rfl ?_)
    refine xs 49 rfl (sf_eq (a := (((x_1.1).fL).length : Int)) (b := (2 : Int)) rfl rfl rfl ?_)
    refine XK.nz ?_
    refine QW.cond (t := (decide ((((x_1.1).fL).length : Int) = (2 : Int)))) rfl zL (fun hb_4 => ?_) (fun hb_4 => ?_)
    · replace h := bGT h hb_4
      refine sR ?_
      refine xs 51 rfl (sf_fldV rfl TT.fldA_125_2 (by decide) rfl ?_)
      refine xs 52 rfl (sf_ldV (v := .d (.slice (((x_1.1).fL).map eItem))) rfl TT.tyA_123 rfl rfl ⟨⟨by simp, by simp⟩, rfl⟩ ?_)
      obtain ⟨c_5, h⟩ := gG h
      refine xs 53 rfl (sf_idxA (l := (x_1.1).fL) (i := (0 : Int)) rfl TT.slcA_123 lay_Item rfl rfl c_5 ?_)
      refine xs 54 rfl (sf_fldC rfl TT.fldA_125_1 (by decide) rfl ?_)
      refine xs 55 rfl (sf_ldC (d := .val (sV ((idx ((x_1.1).fL) (0 : Int)).fS))) rfl TT.tyA_9 rfl (LdC.one) ?_)
      obtain ⟨x_6, hx_7, h⟩ := bG h
      refine xs 56 rfl (sf_call rfl rfl TT.enters_113 rfl (sim_ref06_path ((idx ((x_1.1).fL) (0 : Int)).fS) _ hx_7) ?_)
      refine xm 50 (.d (.tuple [.slice ((x_6.1).map byteD), .val (.bool (x_6.2.1)), .val (.bool (x_6.2.2))])) ?_
      refine xs 57 rfl (sf_extract rfl rfl rfl ?_)
      refine xs 58 rfl (sf_extract rfl rfl rfl ?_)
      refine xs 59 rfl (sf_extract rfl rfl rfl ?_)
      refine xa 9 (.d (.slice ((x_6.1).map byteD))) ?_
      refine xa 10 (pB (x_6.2.1)) ?_
      refine xz 11 (pB (x_6.2.2)) ?_
      refine QW.seq ?_
      refine sR ?_
      refine xm 60 (pB (x_6.2.2)) ?_
      refine xs 61 rfl (sf_not rfl rfl ?_)
      refine xm 62 (pB (!(x_6).2.2)) ?_
      refine xg 63 (.vptr 1 2) rfl rfl (fun hg => sf_fldV rfl TT.fldA_125_2 (by decide) rfl g3) ?_
      refine XK.gd (v := .d (.slice (((x_1.1).fL).map eItem))) (T := [1]) (some 64) rfl rfl (by repeat (first | exact trivial | refine ⟨fun q => by first | rfl | exact q | exact cda q | exact cdb q, ?_⟩)) (fun hg => sf_ldV (v := .d (.slice (((x_1.1).fL).map eItem))) rfl TT.tyA_123 rfl rfl ⟨⟨by simp, by simp⟩, rfl⟩ g3) (fun _ i hi => by simp only [List.mem_singleton] at hi; subst hi; decide) ?_
      obtain ⟨c_8, h⟩ := gG h
      refine xg 65 (.d (.cptr (cItem (idx ((x_1.1).fL) (0 : Int))))) rfl rfl (fun hg => sf_idxA (l := (x_1.1).fL) (i := (0 : Int)) rfl TT.slcA_123 lay_Item rfl rfl (c_8 (eqB hg)) g3) ?_
      refine xg 66 (.d (.cptr ((cItem (idx ((x_1.1).fL) (0 : Int))).drop 0))) rfl rfl (fun hg => sf_fldC rfl TT.fldA_125_0 (by decide) rfl g3) ?_
      refine xg 67 (pB ((idx ((x_1.1).fL) (0 : Int)).fList)) rfl rfl (fun hg => sf_ldC (d := .val (.bool ((idx ((x_1.1).fL) (0 : Int)).fList))) rfl TT.tyA_4 rfl (LdC.one) g3) ?_
      refine xs 68 rfl (sf_pickO rfl rfl rfl rfl (fun _ => rfl) (fun hb => by rw [hb]; rfl) ?_)
      refine XK.nz ?_
      refine QW.cond (t := ((!(x_6).2.2) || (idx ((x_1.1).fL) (0 : Int)).fList)) rfl zL (fun hb_9 => ?_) (fun hb_9 => ?_)
      · replace h := bGT h hb_9
        refine sR ?_
        refine xs 69 rfl (sf_bld (v := .agg (([pI (0), .full (([] : (List UInt8)).map byteD), pS ([] : List UInt8)]) ++ (((Arr.rep 16 ([] : (List UInt8))).1.map eS).map PV.d))) rfl TT.bldA_52 (build_of rfl fill_nil) ?_)
        refine XK.st none rfl rfl (sf_stV (c := (([pI (0), .full (([] : (List UInt8)).map byteD), pS ([] : List UInt8)]) ++ (((Arr.rep 16 ([] : (List UInt8))).1.map eS).map PV.d))) (l' := (([pI (0), .full (([] : (List UInt8)).map byteD), pS ([] : List UInt8)]) ++ (((Arr.rep 16 ([] : (List UInt8))).1.map eS).map PV.d))) rfl TT.tyA_52 rfl rfl rfl rfl rfl (len_app (A := [pI (0), .full (([] : (List UInt8)).map byteD), pS ([] : List UInt8)]) (b := 16) rfl (len_map2 _) rfl) (le_of_len (len_app (A := [pI (0), .full (([] : (List UInt8)).map byteD), pS ([] : List UInt8)]) (b := 16) rfl (len_map2 _) rfl) bL) (spl_same ((len_app (A := [pI (0), .full (([] : (List UInt8)).map byteD), pS ([] : List UInt8)]) (b := 16) rfl (len_map2 _) rfl).trans (len_app (A := [pI (0), .full (([] : (List UInt8)).map byteD), pS ([] : List UInt8)]) (b := 16) rfl (len_map2 _) rfl).symm)) ?_)
        refine xz 3 (pB false) ?_
        refine QW.ret zL (thR (thR ?_))
        obtain rfl := sG h
        exact Ends.more (.inr rfl) rfl (ps := [.agg (([pI (0), .full (([] : (List UInt8)).map byteD), pS ([] : List UInt8)]) ++ (((Arr.rep 16 ([] : (List UInt8))).1.map eS).map PV.d)), pB false]) (And.intro (ResIs.cell rfl rfl TT.tyA_52 (ldv_whole (len_app (A := [pI (0), .full (([] : (List UInt8)).map byteD), pS ([] : List UInt8)]) (b := 16) rfl (len_map2 _) rfl) (Nat.succ_pos _))) (And.intro (ResIs.tmp rfl) trivial)) (by simp only [PV.toD, PV.toDs, toDs_appS, toDs_map, Option.bind_some, Option.map_some, cNode] <;> rfl) rfl
      · replace h := bGF h hb_9
        refine QW.skip zL (nrm ?_)
        refine QW.seq ?_
        refine sR ?_
        refine xm 70 (pB (x_6.2.1)) ?_
        refine XK.nz ?_
        refine QW.cond (t := x_6.2.1) rfl zL (fun hb_10 => ?_) (fun hb_10 => ?_)
        · replace h := bGT h hb_10
          refine sR ?_
          refine xm 71 (.d (.slice ((x_6.1).map byteD))) ?_
          refine xs 72 rfl (sf_fldV rfl TT.fldA_125_2 (by decide) rfl ?_)
          refine xs 73 rfl (sf_ldV (v := .d (.slice (((x_1.1).fL).map eItem))) rfl TT.tyA_123 rfl rfl ⟨⟨by simp, by simp⟩, rfl⟩ ?_)
          obtain ⟨c_11, h⟩ := gG h
          refine xs 74 rfl (sf_idxA (l := (x_1.1).fL) (i := (1 : Int)) rfl TT.slcA_123 lay_Item rfl rfl c_11 ?_)
          refine xs 75 rfl (sf_fldC rfl TT.fldA_125_1 (by decide) rfl ?_)
          refine xs 76 rfl (sf_ldC (d := .val (sV ((idx ((x_1.1).fL) (1 : Int)).fS))) rfl TT.tyA_9 rfl (LdC.one) ?_)
          refine xs 77 rfl (sf_bld (v := .agg (([pI (1), .d (.slice ((x_6.1).map byteD)), pS ((idx ((x_1.1).fL) (1 : Int)).fS)]) ++ (((Arr.rep 16 ([] : (List UInt8))).1.map eS).map PV.d))) rfl TT.bldA_52 (build_of rfl (fill_step (p := pI (1)) (cells := (([pI (0), .full (([] : (List UInt8)).map byteD), pS ([] : List UInt8)]) ++ (((Arr.rep 16 ([] : (List UInt8))).1.map eS).map PV.d))) (cells' := (([pI (1), .full (([] : (List UInt8)).map byteD), pS ([] : List UInt8)]) ++ (((Arr.rep 16 ([] : (List UInt8))).1.map eS).map PV.d))) rfl rfl rfl (le_of_len (len_app (A := [pI (0), .full (([] : (List UInt8)).map byteD), pS ([] : List UInt8)]) (b := 16) rfl (len_map2 _) rfl) bL) (spl_left 0 (by first | exact Nat.le_of_ble_eq_true rfl | simp) rfl) (fill_step (p := .d (.slice ((x_6.1).map byteD))) (cells := (([pI (1), .full (([] : (List UInt8)).map byteD), pS ([] : List UInt8)]) ++ (((Arr.rep 16 ([] : (List UInt8))).1.map eS).map PV.d))) (cells' := (([pI (1), .d (.slice ((x_6.1).map byteD)), pS ([] : List UInt8)]) ++ (((Arr.rep 16 ([] : (List UInt8))).1.map eS).map PV.d))) rfl rfl rfl (le_of_len (len_app (A := [pI (1), .full (([] : (List UInt8)).map byteD), pS ([] : List UInt8)]) (b := 16) rfl (len_map2 _) rfl) bL) (spl_left 1 (by first | exact Nat.le_of_ble_eq_true rfl | simp) rfl) (fill_step (p := pS ((idx ((x_1.1).fL) (1 : Int)).fS)) (cells := (([pI (1), .d (.slice ((x_6.1).map byteD)), pS ([] : List UInt8)]) ++ (((Arr.rep 16 ([] : (List UInt8))).1.map eS).map PV.d))) (cells' := (([pI (1), .d (.slice ((x_6.1).map byteD)), pS ((idx ((x_1.1).fL) (1 : Int)).fS)]) ++ (((Arr.rep 16 ([] : (List UInt8))).1.map eS).map PV.d))) rfl rfl rfl (le_of_len (len_app (A := [pI (1), .d (.slice ((x_6.1).map byteD)), pS ([] : List UInt8)]) (b := 16) rfl (len_map2 _) rfl) bL) (spl_left 2 (by first | exact Nat.le_of_ble_eq_true rfl | simp) rfl) fill_nil)))) ?_)
          refine XK.st none rfl rfl (sf_stV (c := (([pI (1), .d (.slice ((x_6.1).map byteD)), pS ((idx ((x_1.1).fL) (1 : Int)).fS)]) ++ (((Arr.rep 16 ([] : (List UInt8))).1.map eS).map PV.d))) (l' := (([pI (1), .d (.slice ((x_6.1).map byteD)), pS ((idx ((x_1.1).fL) (1 : Int)).fS)]) ++ (((Arr.rep 16 ([] : (List UInt8))).1.map eS).map PV.d))) rfl TT.tyA_52 rfl rfl rfl rfl rfl (len_app (A := [pI (1), .d (.slice ((x_6.1).map byteD)), pS ((idx ((x_1.1).fL) (1 : Int)).fS)]) (b := 16) rfl (len_map2 _) rfl) (le_of_len (len_app (A := [pI (3), .full (([] : (List UInt8)).map byteD), pS ([] : List UInt8)]) (b := 16) rfl (len_map2 _) rfl) bL) (spl_same ((len_app (A := [pI (3), .full (([] : (List UInt8)).map byteD), pS ([] : List UInt8)]) (b := 16) rfl (len_map2 _) rfl).trans (len_app (A := [pI (1), .d (.slice ((x_6.1).map byteD)), pS ((idx ((x_1.1).fL) (1 : Int)).fS)]) (b := 16) rfl (len_map2 _) rfl).symm)) ?_)
          refine XK.nz ?_
          refine QW.seq ?_
          refine QW.region zL (PW.regK (id := 11) mixedX (M := _) rfl (by kernel_rfl) ?_)
          refine RK.as (some 78) rfl rfl (sf_ldV (v := .agg (([pI (1), .d (.slice ((x_6.1).map byteD)), pS ((idx ((x_1.1).fL) (1 : Int)).fS)]) ++ (((Arr.rep 16 ([] : (List UInt8))).1.map eS).map PV.d))) rfl TT.tyA_52 rfl rfl (ldv_whole (len_app (A := [pI (1), .d (.slice ((x_6.1).map byteD)), pS ((idx ((x_1.1).fL) (1 : Int)).fS)]) (b := 16) rfl (len_map2 _) rfl) (Nat.succ_pos _)) ⟨.d (.agg (cNode (⟨1, x_6.1, (idx ((x_1.1).fL) (1 : Int)).fS, (Arr.rep 16 ([] : (List UInt8)))⟩ : Node))), (Imp.toD (toD_agg (toDs_app rfl toDs_map))), ?_⟩)
          refine RK.st (some 79) rfl rfl (sf_fldV rfl TT.fldA_125_2 (by decide) rfl ?_)
          refine RK.st (some 80) rfl rfl (sf_ldV (v := .d (.slice (((x_1.1).fL).map eItem))) rfl TT.tyA_123 rfl rfl ⟨⟨by simp, by simp⟩, rfl⟩ ?_)
          obtain ⟨c_12, h⟩ := gG h
          refine RK.st (some 81) rfl rfl (sf_idxA (l := (x_1.1).fL) (i := (1 : Int)) rfl TT.slcA_123 lay_Item rfl rfl c_12 ?_)
          refine RK.st (some 82) rfl rfl (sf_fldC rfl TT.fldA_125_0 (by decide) rfl ?_)
          refine RK.st (some 83) rfl rfl (sf_ldC (d := .val (.bool ((idx ((x_1.1).fL) (1 : Int)).fList))) rfl TT.tyA_4 rfl (LdC.one) ?_)
          refine RK.st (some 84) rfl rfl (sf_not rfl rfl ?_)
          refine RK.st (some 85) rfl rfl (sf_move (v := pB (!(idx ((x_1.1).fL) (1 : Int)).fList)) rfl rfl ?_)
          refine RK.gd (v := .d (.agg (cNode (⟨1, x_6.1, (idx ((x_1.1).fL) (1 : Int)).fS, (Arr.rep 16 ([] : (List UInt8)))⟩ : Node)))) (T := [2]) (some 86) rfl rfl (by repeat (first | exact trivial | refine ⟨fun q => by first | rfl | exact q | exact cda q | exact cdb q, ?_⟩)) (fun hg => sf_ldV (v := .agg (([pI (1), .d (.slice ((x_6.1).map byteD)), pS ((idx ((x_1.1).fL) (1 : Int)).fS)]) ++ (((Arr.rep 16 ([] : (List UInt8))).1.map eS).map PV.d))) rfl TT.tyA_52 rfl rfl (ldv_whole (len_app (A := [pI (1), .d (.slice ((x_6.1).map byteD)), pS ((idx ((x_1.1).fL) (1 : Int)).fS)]) (b := 16) rfl (len_map2 _) rfl) (Nat.succ_pos _)) ⟨⟨rfl, rfl, rfl⟩, rfl, (Imp.toD (toD_agg (toDs_app rfl toDs_map)))⟩) (fun _ i hi => by simp only [List.mem_singleton] at hi; subst hi; decide) ?_
          obtain ⟨x_13, hx_14, h⟩ := bG h
          refine RK.gd (v := pB x_13) (T := []) (some 87) rfl rfl (by repeat (first | exact trivial | refine ⟨fun q => by first | rfl | exact q | exact cda q | exact cdb q, ?_⟩)) (fun hg => sf_call rfl rfl TT.enters_35 rfl (sims_ref06_May self hself (⟨1, x_6.1, (idx ((x_1.1).fL) (1 : Int)).fS, (Arr.rep 16 ([] : (List UInt8)))⟩ : Node) _ (bT hx_14 hg)) g3) nm0 ?_
          refine RK.st (some 88) rfl rfl (sf_pickA rfl rfl rfl rfl (fun hb => by rw [hb]; rfl) (fun _ => rfl) ?_)
          refine RK.st none rfl rfl (sf_stV (c := (([pI (1), .d (.slice ((x_6.1).map byteD)), pS ((idx ((x_1.1).fL) (1 : Int)).fS)]) ++ (((Arr.rep 16 ([] : (List UInt8))).1.map eS).map PV.d))) (l' := (([pI (1), .d (.slice ((x_6.1).map byteD)), pS ((idx ((x_1.1).fL) (1 : Int)).fS)]) ++ (((Arr.rep 16 ([] : (List UInt8))).1.map eS).map PV.d))) rfl TT.tyA_52 rfl rfl rfl rfl (show (cNode (⟨1, x_6.1, (idx ((x_1.1).fL) (1 : Int)).fS, (Arr.rep 16 ([] : (List UInt8)))⟩ : Node)).map PV.d = _ by simp only [cNode, List.map_append]; rfl) (len_app (A := [pI (1), .d (.slice ((x_6.1).map byteD)), pS ((idx ((x_1.1).fL) (1 : Int)).fS)]) (b := 16) rfl (len_map2 _) rfl) (le_of_len (len_app (A := [pI (0), .full (([] : (List UInt8)).map byteD), pS ([] : List UInt8)]) (b := 16) rfl (len_map2 _) rfl) bL) (spl_same ((len_app (A := [pI (0), .full (([] : (List UInt8)).map byteD), pS ([] : List UInt8)]) (b := 16) rfl (len_map2 _) rfl).trans (len_app (A := [pI (1), .d (.slice ((x_6.1).map byteD)), pS ((idx ((x_1.1).fL) (1 : Int)).fS)]) (b := 16) rfl (len_map2 _) rfl).symm)) ?_)
          refine RK.st (some 3) rfl rfl (sf_assign (v := pB ((!(idx ((x_1.1).fL) (1 : Int)).fList) && x_13)) rfl rfl ?_)
          refine RK.nil ⟨RecsOK.comp (by rfl), (nrm ?_)⟩
          refine QW.ret zL (thR (thR ?_))
          obtain rfl := sG h
          exact Ends.more (.inr rfl) rfl (ps := [.agg (([pI (1), .d (.slice ((x_6.1).map byteD)), pS ((idx ((x_1.1).fL) (1 : Int)).fS)]) ++ (((Arr.rep 16 ([] : (List UInt8))).1.map eS).map PV.d)), pB ((!(idx ((x_1.1).fL) (1 : Int)).fList) && x_13)]) (And.intro (ResIs.cell rfl rfl TT.tyA_52 (ldv_whole (len_app (A := [pI (1), .d (.slice ((x_6.1).map byteD)), pS ((idx ((x_1.1).fL) (1 : Int)).fS)]) (b := 16) rfl (len_map2 _) rfl) (Nat.succ_pos _))) (And.intro (ResIs.tmp rfl) trivial)) (by simp only [PV.toD, PV.toDs, toDs_appS, toDs_map, Option.bind_some, Option.map_some, cNode] <;> rfl) rfl
        · replace h := bGF h hb_10
          refine QW.skip zL (nrm ?_)
          refine sR ?_
          refine xs 90 rfl (sf_fldV rfl TT.fldA_125_2 (by decide) rfl ?_)
          refine xs 91 rfl (sf_ldV (v := .d (.slice (((x_1.1).fL).map eItem))) rfl TT.tyA_123 rfl rfl ⟨⟨by simp, by simp⟩, rfl⟩ ?_)
          obtain ⟨c_15, h⟩ := gG h
          refine xs 92 rfl (sf_idxA (l := (x_1.1).fL) (i := (1 : Int)) rfl TT.slcA_123 lay_Item rfl rfl c_15 ?_)
          refine xs 93 rfl (sf_ldC (d := .agg (cItem (idx ((x_1.1).fL) (1 : Int)))) rfl TT.tyA_125 rfl (⟨by simp [cItem], rfl⟩) ?_)
          obtain ⟨x_16, hx_17, h⟩ := bG h
          refine xs 94 rfl (sf_call rfl rfl TT.enters_114 rfl (sims_ref06_kid self hself (idx ((x_1.1).fL) (1 : Int)) _ hx_17) ?_)
          refine xm 89 (.d (.tuple [.val (sV (x_16.1)), .val (.bool (x_16.2))])) ?_
          refine xs 95 rfl (sf_extract rfl rfl rfl ?_)
          refine xs 96 rfl (sf_extract rfl rfl rfl ?_)
          refine xa 12 (pS (x_16.1)) ?_
          refine xz 13 (pB (x_16.2)) ?_
          refine sR ?_
          refine xm 97 (.d (.slice ((x_6.1).map byteD))) ?_
          refine xs 98 rfl (sf_bld (v := .agg (([pI (2), .d (.slice ((x_6.1).map byteD)), pS ([] : List UInt8)]) ++ (((Arr.rep 16 ([] : (List UInt8))).1.map eS).map PV.d))) rfl TT.bldA_52 (build_of rfl (fill_step (p := pI (2)) (cells := (([pI (0), .full (([] : (List UInt8)).map byteD), pS ([] : List UInt8)]) ++ (((Arr.rep 16 ([] : (List UInt8))).1.map eS).map PV.d))) (cells' := (([pI (2), .full (([] : (List UInt8)).map byteD), pS ([] : List UInt8)]) ++ (((Arr.rep 16 ([] : (List UInt8))).1.map eS).map PV.d))) rfl rfl rfl (le_of_len (len_app (A := [pI (0), .full (([] : (List UInt8)).map byteD), pS ([] : List UInt8)]) (b := 16) rfl (len_map2 _) rfl) bL) (spl_left 0 (by first | exact Nat.le_of_ble_eq_true rfl | simp) rfl) (fill_step (p := .d (.slice ((x_6.1).map byteD))) (cells := (([pI (2), .full (([] : (List UInt8)).map byteD), pS ([] : List UInt8)]) ++ (((Arr.rep 16 ([] : (List UInt8))).1.map eS).map PV.d))) (cells' := (([pI (2), .d (.slice ((x_6.1).map byteD)), pS ([] : List UInt8)]) ++ (((Arr.rep 16 ([] : (List UInt8))).1.map eS).map PV.d))) rfl rfl rfl (le_of_len (len_app (A := [pI (2), .full (([] : (List UInt8)).map byteD), pS ([] : List UInt8)]) (b := 16) rfl (len_map2 _) rfl) bL) (spl_left 1 (by first | exact Nat.le_of_ble_eq_true rfl | simp) rfl) fill_nil))) ?_)
          refine XK.st none rfl rfl (sf_stV (c := (([pI (2), .d (.slice ((x_6.1).map byteD)), pS ([] : List UInt8)]) ++ (((Arr.rep 16 ([] : (List UInt8))).1.map eS).map PV.d))) (l' := (([pI (2), .d (.slice ((x_6.1).map byteD)), pS ([] : List UInt8)]) ++ (((Arr.rep 16 ([] : (List UInt8))).1.map eS).map PV.d))) rfl TT.tyA_52 rfl rfl rfl rfl rfl (len_app (A := [pI (2), .d (.slice ((x_6.1).map byteD)), pS ([] : List UInt8)]) (b := 16) rfl (len_map2 _) rfl) (le_of_len (len_app (A := [pI (3), .full (([] : (List UInt8)).map byteD), pS ([] : List UInt8)]) (b := 16) rfl (len_map2 _) rfl) bL) (spl_same ((len_app (A := [pI (3), .full (([] : (List UInt8)).map byteD), pS ([] : List UInt8)]) (b := 16) rfl (len_map2 _) rfl).trans (len_app (A := [pI (2), .d (.slice ((x_6.1).map byteD)), pS ([] : List UInt8)]) (b := 16) rfl (len_map2 _) rfl).symm)) ?_)
          refine XK.nz ?_
          refine sR ?_
          refine xm 99 (pS (x_16.1)) ?_
          refine xs 100 rfl (sf_fldV rfl TT.fldA_52_3 (by decide) rfl ?_)
          refine xs 101 rfl (sf_idxV (i := (0 : Int)) rfl TT.slcA_50 TT.arrA_50 rfl rfl (by decide) ?_)
          refine XK.st none rfl rfl (sf_stV (l' := (([pI (2), .d (.slice ((x_6.1).map byteD)), pS ([] : List UInt8)]) ++ ((((Arr.rep 16 ([] : (List UInt8))).put (0 : Int) (x_16.1)).1.map eS).map PV.d))) rfl TT.tyA_9 rfl rfl rfl rfl rfl rfl (le_seg (n := 16) (by decide) (len_app (A := [pI (2), .d (.slice ((x_6.1).map byteD)), pS ([] : List UInt8)]) (b := 16) rfl (len_map2 _) rfl) bL) (spl_in 3 _ rfl (spl_arr0 (by decide))) ?_)
          refine XK.nz ?_
          refine QW.seq ?_
          refine QW.view (s' := ⟨tab [(0, pS s0), (2, .vptr 0 0), (8, .vptr 1 0), (13, pB (x_16.2))], tabH [.var (([pI (0), .full (([] : (List UInt8)).map byteD), pS ([] : List UInt8)]) ++ (((Arr.rep 16 ([] : (List UInt8))).1.map eS).map PV.d)), .var (([pI (2), .d (.slice ((x_6.1).map byteD)), pS ([] : List UInt8)]) ++ ((((Arr.rep 16 ([] : (List UInt8))).put (0 : Int) (x_16.1)).1.map eS).map PV.d))], 2, []⟩) (View.mk 2 [0, 2] _ _ _ rfl rfl (by decide) (iC (iC (iC (iC trivial)))) (And.intro (by simp only [atH1, res_app, PV.res_d]; rfl) (And.intro (by simp only [atH1, res_app, PV.res_d]; rfl) trivial)) rfl zL rfl) zL ?_
          refine QW.region zL (PW.regK (id := 15) mixedX (M := _) rfl (by kernel_rfl) ?_)
          refine RK.as (some 102) rfl rfl (sf_ldV (v := .agg (([pI (2), .d (.slice ((x_6.1).map byteD)), pS ([] : List UInt8)]) ++ ((((Arr.rep 16 ([] : (List UInt8))).put (0 : Int) (x_16.1)).1.map eS).map PV.d))) rfl TT.tyA_52 rfl rfl (ldv_whole (len_app (A := [pI (2), .d (.slice ((x_6.1).map byteD)), pS ([] : List UInt8)]) (b := 16) rfl (len_map2 _) rfl) (Nat.succ_pos _)) ⟨.d (.agg (cNode (⟨2, x_6.1, ([] : List UInt8), ((Arr.rep 16 ([] : (List UInt8))).put (0 : Int) (x_16.1))⟩ : Node))), (Imp.toD (toD_agg (toDs_app rfl toDs_map))), ?_⟩)
          refine RK.st (some 103) rfl rfl (sf_move (v := pB (x_16.2)) rfl rfl ?_)
          refine RK.st (some 104) rfl rfl (sf_move (v := pB (x_16.2)) rfl rfl ?_)
          refine RK.gd (v := .d (.agg (cNode (⟨2, x_6.1, ([] : List UInt8), ((Arr.rep 16 ([] : (List UInt8))).put (0 : Int) (x_16.1))⟩ : Node)))) (T := [1]) (some 105) rfl rfl (by repeat (first | exact trivial | refine ⟨fun q => by first | rfl | exact q | exact cda q | exact cdb q, ?_⟩)) (fun hg => sf_ldV (v := .agg (([pI (2), .d (.slice ((x_6.1).map byteD)), pS ([] : List UInt8)]) ++ ((((Arr.rep 16 ([] : (List UInt8))).put (0 : Int) (x_16.1)).1.map eS).map PV.d))) rfl TT.tyA_52 rfl rfl (ldv_whole (len_app (A := [pI (2), .d (.slice ((x_6.1).map byteD)), pS ([] : List UInt8)]) (b := 16) rfl (len_map2 _) rfl) (Nat.succ_pos _)) ⟨⟨rfl, rfl, rfl⟩, rfl, (Imp.toD (toD_agg (toDs_app rfl toDs_map)))⟩) (fun _ i hi => by simp only [List.mem_singleton] at hi; subst hi; decide) ?_
          obtain ⟨x_18, hx_19, h⟩ := bG h
          refine RK.gd (v := pB x_18) (T := []) (some 106) rfl rfl (by repeat (first | exact trivial | refine ⟨fun q => by first | rfl | exact q | exact cda q | exact cdb q, ?_⟩)) (fun hg => sf_call rfl rfl TT.enters_35 rfl (sims_ref06_May self hself (⟨2, x_6.1, ([] : List UInt8), ((Arr.rep 16 ([] : (List UInt8))).put (0 : Int) (x_16.1))⟩ : Node) _ (bT hx_19 hg)) g3) nm0 ?_
          refine RK.st (some 107) rfl rfl (sf_pickA rfl rfl rfl rfl (fun hb => by rw [hb]; rfl) (fun _ => rfl) ?_)
          refine RK.st (some 108) rfl rfl (sf_move (v := pB (x_16.2 && x_18)) rfl rfl ?_)
          refine RK.gd (v := .d (.agg (cNode (⟨2, x_6.1, ([] : List UInt8), ((Arr.rep 16 ([] : (List UInt8))).put (0 : Int) (x_16.1))⟩ : Node)))) (T := [1]) (some 109) rfl rfl (by repeat (first | exact trivial | refine ⟨fun q => by first | rfl | exact q | exact cda q | exact cdb q, ?_⟩)) (fun hg => sf_ldV (v := .agg (([pI (2), .d (.slice ((x_6.1).map byteD)), pS ([] : List UInt8)]) ++ ((((Arr.rep 16 ([] : (List UInt8))).put (0 : Int) (x_16.1)).1.map eS).map PV.d))) rfl TT.tyA_52 rfl rfl (ldv_whole (len_app (A := [pI (2), .d (.slice ((x_6.1).map byteD)), pS ([] : List UInt8)]) (b := 16) rfl (len_map2 _) rfl) (Nat.succ_pos _)) ⟨⟨rfl, rfl, rfl⟩, rfl, (Imp.toD (toD_agg (toDs_app rfl toDs_map)))⟩) (fun _ i hi => by simp only [List.mem_singleton] at hi; subst hi; decide) ?_
          obtain ⟨x_20, hx_21, h⟩ := bG h
          refine RK.gd (v := pS x_20) (T := []) (some 110) rfl rfl (by repeat (first | exact trivial | refine ⟨fun q => by first | rfl | exact q | exact cda q | exact cdb q, ?_⟩)) (fun hg => sf_call rfl rfl TT.enters_38 rfl (sim_ref06_Put (⟨2, x_6.1, ([] : List UInt8), ((Arr.rep 16 ([] : (List UInt8))).put (0 : Int) (x_16.1))⟩ : Node) _ (bT hx_21 hg)) g3) nm0 ?_
          refine RK.gd (v := pS s0) (T := []) (some 111) rfl rfl (by repeat (first | exact trivial | refine ⟨fun q => by first | rfl | exact q | exact cda q | exact cdb q, ?_⟩)) (fun hg => sf_move (v := pS s0) rfl rfl g3) nm0 ?_
          refine RK.gd (v := pB (x_20 == s0)) (T := []) (some 112) rfl rfl (by repeat (first | exact trivial | refine ⟨fun q => by first | rfl | exact q | exact cda q | exact cdb q, ?_⟩)) (fun hg => sf_seq (a := x_20) (b := s0) rfl rfl rfl g3) nm0 ?_
          refine RK.st (some 113) rfl rfl (sf_pickA rfl rfl rfl rfl (fun hb => by rw [hb]; rfl) (fun _ => rfl) ?_)
          refine RK.st none rfl rfl (sf_stV (c := (([pI (2), .d (.slice ((x_6.1).map byteD)), pS ([] : List UInt8)]) ++ ((((Arr.rep 16 ([] : (List UInt8))).put (0 : Int) (x_16.1)).1.map eS).map PV.d))) (l' := (([pI (2), .d (.slice ((x_6.1).map byteD)), pS ([] : List UInt8)]) ++ ((((Arr.rep 16 ([] : (List UInt8))).put (0 : Int) (x_16.1)).1.map eS).map PV.d))) rfl TT.tyA_52 rfl rfl rfl rfl (show (cNode (⟨2, x_6.1, ([] : List UInt8), ((Arr.rep 16 ([] : (List UInt8))).put (0 : Int) (x_16.1))⟩ : Node)).map PV.d = _ by simp only [cNode, List.map_append]; rfl) (len_app (A := [pI (2), .d (.slice ((x_6.1).map byteD)), pS ([] : List UInt8)]) (b := 16) rfl (len_map2 _) rfl) (le_of_len (len_app (A := [pI (0), .full (([] : (List UInt8)).map byteD), pS ([] : List UInt8)]) (b := 16) rfl (len_map2 _) rfl) bL) (spl_same ((len_app (A := [pI (0), .full (([] : (List UInt8)).map byteD), pS ([] : List UInt8)]) (b := 16) rfl (len_map2 _) rfl).trans (len_app (A := [pI (2), .d (.slice ((x_6.1).map byteD)), pS ([] : List UInt8)]) (b := 16) rfl (len_map2 _) rfl).symm)) ?_)
          refine RK.st (some 3) rfl rfl (sf_assign (v := pB ((x_16.2 && x_18) && (x_20 == s0))) rfl rfl ?_)
          refine RK.nil ⟨RecsOK.comp (by rfl), (nrm ?_)⟩
          refine QW.ret zL (thR ?_)
          obtain rfl := sG h
          exact Ends.more (.inr rfl) rfl (ps := [.agg (([pI (2), .d (.slice ((x_6.1).map byteD)), pS ([] : List UInt8)]) ++ ((((Arr.rep 16 ([] : (List UInt8))).put (0 : Int) (x_16.1)).1.map eS).map PV.d)), pB ((x_16.2 && x_18) && (x_20 == s0))]) (And.intro (ResIs.cell rfl rfl TT.tyA_52 (ldv_whole (len_app (A := [pI (2), .d (.slice ((x_6.1).map byteD)), pS ([] : List UInt8)]) (b := 16) rfl (len_map2 _) rfl) (Nat.succ_pos _))) (And.intro (ResIs.tmp rfl) trivial)) (by simp only [PV.toD, PV.toDs, toDs_appS, toDs_map, Option.bind_some, Option.map_some, cNode] <;> rfl) rfl
    · replace h := bGF h hb_4
      refine QW.skip zL (nrm ?_)
      refine QW.seq ?_
      refine sR ?_
      refine xz 14 (pI (0)) ?_
      refine QW.block ?_
      refine QW.loop (fun k σ => ∃ v14 : Int, ∃ v4_0_2 : Bool, ∃ v4_1_2 : (List UInt8), ∃ v4_2_2 : (List Item), ∃ v8_3 : (Arr 16 (List UInt8)), k ≤ k_0 ∧ run (step_ref06_Get self s0) k (.L1 v14 v4_0_2 v4_1_2 v4_2_2 v8_3) = some r ∧ σ = ⟨tab [(0, pS s0), (2, .vptr 0 0), (4, .vptr 1 0), (8, .vptr 2 0), (14, pI v14)], tabH [.var (([pI (0), .full (([] : (List UInt8)).map byteD), pS ([] : List UInt8)]) ++ (((Arr.rep 16 ([] : (List UInt8))).1.map eS).map PV.d)), .var [pB v4_0_2, pS v4_1_2, .d (.slice (v4_2_2.map eItem))], .var (([pI (3), .full (([] : (List UInt8)).map byteD), pS ([] : List UInt8)]) ++ ((v8_3.1.map eS).map PV.d))], 3, []⟩) k_0 zL ⟨⟨tab [(0, pS s0), (2, .vptr 0 0), (4, .vptr 1 0), (8, .vptr 2 0), (14, pI (0))], tabH [.var (([pI (0), .full (([] : (List UInt8)).map byteD), pS ([] : List UInt8)]) ++ (((Arr.rep 16 ([] : (List UInt8))).1.map eS).map PV.d)), .var [pB ((x_1.1).fList), pS ((x_1.1).fS), .d (.slice (((x_1.1).fL).map eItem))], .var (([pI (3), .full (([] : (List UInt8)).map byteD), pS ([] : List UInt8)]) ++ (((Arr.rep 16 ([] : (List UInt8))).1.map eS).map PV.d))], 3, []⟩, View.mk 3 [0, 1, 2] _ _ _ rfl rfl (by decide) (iC (iC (iC (iC (iC trivial))))) (And.intro (by simp only [atH1, res_app, PV.res_d]; rfl) (And.intro rfl (And.intro (by simp only [atH1, res_app, PV.res_d]; rfl) trivial))) rfl zL rfl, 0, (x_1.1).fList, (x_1.1).fS, (x_1.1).fL, (Arr.rep 16 ([] : (List UInt8))), Nat.le_refl _, jG h, rfl⟩ ?_
      rintro k_22s _ ⟨v14, v4_0_2, v4_1_2, v4_2_2, v8_3, k_22h, h, rfl⟩
      obtain ⟨k_22, rfl, h9⟩ := run_succ h; replace h := h9; clear h9; rw [step_ref06_Get] at h
      refine QW.seq ?_
      refine sR ?_
      refine xm 114 (pI v14) ?_
      refine xs 115 rfl (sf_lss (a := v14) (b := (16 : Int)) rfl rfl rfl ?_)
      refine XK.nz ?_
      refine QW.cond (t := (decide (v14 < (16 : Int)))) rfl zL (fun hb_23 => ?_) (fun hb_23 => ?_)
      · replace h := bGT h hb_23
        refine QW.skip zL (nrm ?_)
        refine QW.seq ?_
        refine QW.block ?_
        refine sR ?_
        refine xs 119 rfl (sf_fldV rfl TT.fldA_125_2 (by decide) rfl ?_)
        refine xs 120 rfl (sf_ldV (v := .d (.slice (v4_2_2.map eItem))) rfl TT.tyA_123 rfl rfl ⟨⟨by simp, by simp⟩, rfl⟩ ?_)
        refine xm 121 (pI v14) ?_
        obtain ⟨c_24, h⟩ := gG h
        refine xs 122 rfl (sf_idxA (l := v4_2_2) (i := v14) rfl TT.slcA_123 lay_Item rfl rfl c_24 ?_)
        refine xs 123 rfl (sf_ldC (d := .agg (cItem (idx v4_2_2 v14))) rfl TT.tyA_125 rfl (⟨by simp [cItem], rfl⟩) ?_)
        obtain ⟨x_25, hx_26, h⟩ := bG h
        refine xs 124 rfl (sf_call rfl rfl TT.enters_114 rfl (sims_ref06_kid self hself (idx v4_2_2 v14) _ hx_26) ?_)
        refine xm 118 (.d (.tuple [.val (sV (x_25.1)), .val (.bool (x_25.2))])) ?_
        refine xs 125 rfl (sf_extract rfl rfl rfl ?_)
        refine xs 126 rfl (sf_extract rfl rfl rfl ?_)
        refine xa 15 (pS (x_25.1)) ?_
        refine xz 16 (pB (x_25.2)) ?_
        refine QW.seq ?_
        refine sR ?_
        refine xm 127 (pB (x_25.2)) ?_
        refine xs 128 rfl (sf_not rfl rfl ?_)
        refine XK.nz ?_
        refine QW.cond (t := (!(x_25).2)) rfl zL (fun hb_27 => ?_) (fun hb_27 => ?_)
        · replace h := bGT h hb_27
          refine sR ?_
          refine xs 129 rfl (sf_bld (v := .agg (([pI (0), .full (([] : (List UInt8)).map byteD), pS ([] : List UInt8)]) ++ (((Arr.rep 16 ([] : (List UInt8))).1.map eS).map PV.d))) rfl TT.bldA_52 (build_of rfl fill_nil) ?_)
          refine XK.st none rfl rfl (sf_stV (c := (([pI (0), .full (([] : (List UInt8)).map byteD), pS ([] : List UInt8)]) ++ (((Arr.rep 16 ([] : (List UInt8))).1.map eS).map PV.d))) (l' := (([pI (0), .full (([] : (List UInt8)).map byteD), pS ([] : List UInt8)]) ++ (((Arr.rep 16 ([] : (List UInt8))).1.map eS).map PV.d))) rfl TT.tyA_52 rfl rfl rfl rfl rfl (len_app (A := [pI (0), .full (([] : (List UInt8)).map byteD), pS ([] : List UInt8)]) (b := 16) rfl (len_map2 _) rfl) (le_of_len (len_app (A := [pI (0), .full (([] : (List UInt8)).map byteD), pS ([] : List UInt8)]) (b := 16) rfl (len_map2 _) rfl) bL) (spl_same ((len_app (A := [pI (0), .full (([] : (List UInt8)).map byteD), pS ([] : List UInt8)]) (b := 16) rfl (len_map2 _) rfl).trans (len_app (A := [pI (0), .full (([] : (List UInt8)).map byteD), pS ([] : List UInt8)]) (b := 16) rfl (len_map2 _) rfl).symm)) ?_)
          refine xz 3 (pB false) ?_
          refine QW.ret zL (thR (blR (thR (thR (blR (thR ?_))))))
          obtain rfl := sG h
          exact Ends.more (.inr rfl) rfl (ps := [.agg (([pI (0), .full (([] : (List UInt8)).map byteD), pS ([] : List UInt8)]) ++ (((Arr.rep 16 ([] : (List UInt8))).1.map eS).map PV.d)), pB false]) (And.intro (ResIs.cell rfl rfl TT.tyA_52 (ldv_whole (len_app (A := [pI (0), .full (([] : (List UInt8)).map byteD), pS ([] : List UInt8)]) (b := 16) rfl (len_map2 _) rfl) (Nat.succ_pos _))) (And.intro (ResIs.tmp rfl) trivial)) (by simp only [PV.toD, PV.toDs, toDs_appS, toDs_map, Option.bind_some, Option.map_some, cNode] <;> rfl) rfl
        · replace h := bGF h hb_27
          refine QW.skip zL (nrm ?_)
          refine rG ?_
          refine xm 130 (pI v14) ?_
          refine xm 131 (pS (x_25.1)) ?_
          refine xs 132 rfl (sf_fldV rfl TT.fldA_52_3 (by decide) rfl ?_)
          obtain ⟨c_28, h⟩ := gG h
          refine xs 133 rfl (sf_idxV (i := v14) rfl TT.slcA_50 TT.arrA_50 rfl rfl c_28 ?_)
          refine XK.st none rfl rfl (sf_stV (l' := (([pI (3), .full (([] : (List UInt8)).map byteD), pS ([] : List UInt8)]) ++ (((v8_3.put v14 (x_25.1)).1.map eS).map PV.d))) rfl TT.tyA_9 rfl rfl rfl rfl rfl rfl (le_seg (n := 16) c_28 (len_app (A := [pI (3), .full (([] : (List UInt8)).map byteD), pS ([] : List UInt8)]) (b := 16) rfl (len_map2 _) rfl) bL) (spl_in 3 _ rfl (spl_arr0 c_28)) ?_)
          refine XK.nil (blN (nrm ?_))
          refine rG ?_
          refine xm 116 (pI v14) ?_
          obtain ⟨c_29, h⟩ := gG h
          refine xs 117 rfl (sf_add (a := v14) (b := (1 : Int)) rfl rfl rfl c_29 ?_)
          refine xz 14 (pI (v14 + (1 : Int))) ?_
          exact ⟨k_22, by omega, ⟨tab [(0, pS s0), (2, .vptr 0 0), (4, .vptr 1 0), (8, .vptr 2 0), (14, pI (v14 + (1 : Int)))], tabH [.var (([pI (0), .full (([] : (List UInt8)).map byteD), pS ([] : List UInt8)]) ++ (((Arr.rep 16 ([] : (List UInt8))).1.map eS).map PV.d)), .var [pB v4_0_2, pS v4_1_2, .d (.slice (v4_2_2.map eItem))], .var (([pI (3), .full (([] : (List UInt8)).map byteD), pS ([] : List UInt8)]) ++ (((v8_3.put v14 (x_25.1)).1.map eS).map PV.d))], 3, []⟩, View.mk 3 [0, 1, 2] _ _ _ rfl rfl (by decide) (iC (iC (iC (iC (iC trivial))))) (And.intro (by simp only [atH1, res_app, PV.res_d]; rfl) (And.intro rfl (And.intro (by simp only [atH1, res_app, PV.res_d]; rfl) trivial))) rfl zL rfl, (v14 + (1 : Int)), v4_0_2, v4_1_2, v4_2_2, (v8_3.put v14 (x_25.1)), by omega, jG h, rfl⟩
      · replace h := bGF h hb_23
        refine QW.exit zL (thX (thX (exE (nrm ?_))))
        refine QW.seq ?_
        refine QW.region zL (PW.regK (id := 23) mixedX (M := _) rfl (by kernel_rfl) ?_)
        refine RK.as (some 134) rfl rfl (sf_ldV (v := .agg (([pI (3), .full (([] : (List UInt8)).map byteD), pS ([] : List UInt8)]) ++ ((v8_3.1.map eS).map PV.d))) rfl TT.tyA_52 rfl rfl (ldv_whole (len_app (A := [pI (3), .full (([] : (List UInt8)).map byteD), pS ([] : List UInt8)]) (b := 16) rfl (len_map2 _) rfl) (Nat.succ_pos _)) ⟨.d (.agg (cNode (⟨3, ([] : (List UInt8)), ([] : List UInt8), v8_3⟩ : Node))), (Imp.toD (toD_agg (toDs_app rfl toDs_map))), ?_⟩)
        refine RK.as (some 135) rfl rfl (sf_ldV (v := .agg (([pI (3), .full (([] : (List UInt8)).map byteD), pS ([] : List UInt8)]) ++ ((v8_3.1.map eS).map PV.d))) rfl TT.tyA_52 rfl rfl (ldv_whole (len_app (A := [pI (3), .full (([] : (List UInt8)).map byteD), pS ([] : List UInt8)]) (b := 16) rfl (len_map2 _) rfl) (Nat.succ_pos _)) ⟨.d (.agg (cNode (⟨3, ([] : (List UInt8)), ([] : List UInt8), v8_3⟩ : Node))), (Imp.toD (toD_agg (toDs_app rfl toDs_map))), ?_⟩)
        obtain ⟨x_30, hx_31, h⟩ := bG h
        refine RK.st (some 136) rfl rfl (sf_call rfl rfl TT.enters_35 rfl (sims_ref06_May self hself (⟨3, ([] : (List UInt8)), ([] : List UInt8), v8_3⟩ : Node) _ hx_31) ?_)
        refine RK.st (some 137) rfl rfl (sf_move (v := pB x_30) rfl rfl ?_)
        refine RK.gd (v := .d (.agg (cNode (⟨3, ([] : (List UInt8)), ([] : List UInt8), v8_3⟩ : Node)))) (T := [2]) (some 138) rfl rfl (by repeat (first | exact trivial | refine ⟨fun q => by first | rfl | exact q | exact cda q | exact cdb q, ?_⟩)) (fun hg => sf_ldV (v := .agg (([pI (3), .full (([] : (List UInt8)).map byteD), pS ([] : List UInt8)]) ++ ((v8_3.1.map eS).map PV.d))) rfl TT.tyA_52 rfl rfl (ldv_whole (len_app (A := [pI (3), .full (([] : (List UInt8)).map byteD), pS ([] : List UInt8)]) (b := 16) rfl (len_map2 _) rfl) (Nat.succ_pos _)) ⟨⟨rfl, rfl, rfl⟩, rfl, (Imp.toD (toD_agg (toDs_app rfl toDs_map)))⟩) (fun _ i hi => by simp only [List.mem_singleton] at hi; subst hi; decide) ?_
        obtain ⟨x_32, hx_33, h⟩ := bG h
        refine RK.gd (v := pS x_32) (T := []) (some 139) rfl rfl (by repeat (first | exact trivial | refine ⟨fun q => by first | rfl | exact q | exact cda q | exact cdb q, ?_⟩)) (fun hg => sf_call rfl rfl TT.enters_38 rfl (sim_ref06_Put (⟨3, ([] : (List UInt8)), ([] : List UInt8), v8_3⟩ : Node) _ (bT hx_33 hg)) g3) nm0 ?_
        refine RK.gd (v := pS s0) (T := []) (some 140) rfl rfl (by repeat (first | exact trivial | refine ⟨fun q => by first | rfl | exact q | exact cda q | exact cdb q, ?_⟩)) (fun hg => sf_move (v := pS s0) rfl rfl g3) nm0 ?_
        refine RK.gd (v := pB (x_32 == s0)) (T := []) (some 141) rfl rfl (by repeat (first | exact trivial | refine ⟨fun q => by first | rfl | exact q | exact cda q | exact cdb q, ?_⟩)) (fun hg => sf_seq (a := x_32) (b := s0) rfl rfl rfl g3) nm0 ?_
        refine RK.st (some 142) rfl rfl (sf_pickA rfl rfl rfl rfl (fun hb => by rw [hb]; rfl) (fun _ => rfl) ?_)
        refine RK.st none rfl rfl (sf_stV (c := (([pI (3), .d (.slice (([] : (List UInt8)).map byteD)), pS ([] : List UInt8)]) ++ ((v8_3.1.map eS).map PV.d))) (l' := (([pI (3), .d (.slice (([] : (List UInt8)).map byteD)), pS ([] : List UInt8)]) ++ ((v8_3.1.map eS).map PV.d))) rfl TT.tyA_52 rfl rfl rfl rfl (show (cNode (⟨3, ([] : (List UInt8)), ([] : List UInt8), v8_3⟩ : Node)).map PV.d = _ by simp only [cNode, List.map_append]; rfl) (len_app (A := [pI (3), .d (.slice (([] : (List UInt8)).map byteD)), pS ([] : List UInt8)]) (b := 16) rfl (len_map2 _) rfl) (le_of_len (len_app (A := [pI (0), .full (([] : (List UInt8)).map byteD), pS ([] : List UInt8)]) (b := 16) rfl (len_map2 _) rfl) bL) (spl_same ((len_app (A := [pI (0), .full (([] : (List UInt8)).map byteD), pS ([] : List UInt8)]) (b := 16) rfl (len_map2 _) rfl).trans (len_app (A := [pI (3), .d (.slice (([] : (List UInt8)).map byteD)), pS ([] : List UInt8)]) (b := 16) rfl (len_map2 _) rfl).symm)) ?_)
        refine RK.st (some 3) rfl rfl (sf_assign (v := pB (x_30 && (x_32 == s0))) rfl rfl ?_)
        refine RK.nil ⟨RecsOK.comp (by rfl), (nrm ?_)⟩
        refine QW.ret zL ?_
        obtain rfl := sG h
        exact Ends.more (.inr rfl) rfl (ps := [.agg (([pI (3), .d (.slice (([] : (List UInt8)).map byteD)), pS ([] : List UInt8)]) ++ ((v8_3.1.map eS).map PV.d)), pB (x_30 && (x_32 == s0))]) (And.intro (ResIs.cell rfl rfl TT.tyA_52 (ldv_whole (len_app (A := [pI (3), .d (.slice (([] : (List UInt8)).map byteD)), pS ([] : List UInt8)]) (b := 16) rfl (len_map2 _) rfl) (Nat.succ_pos _))) (And.intro (ResIs.tmp rfl) trivial)) (by simp only [PV.toD, PV.toDs, toDs_appS, toDs_map, Option.bind_some, Option.map_some, cNode] <;> rfl) rfl
noncomputable def gs_ref06_Reference (self : (List UInt8) → Option Bool) (s0 : (List UInt8)) : Option Bool :=
    (bif ((s0 == ([] : List UInt8)) || (decide ((s0.length : Int) = (32 : Int)))) then
    some true
    else
    (bif (decide ((31 : Int) < (s0.length : Int))) then
    some false
    else
    ((gs_ref06_Get self s0).bind fun (x_3 : (Node × Bool)) =>
    some (x_3.2))))
theorem sims_ref06_Reference (self : (List UInt8) → Option Bool) (hself : ∀ (y0 : (List UInt8)) (rr : Bool), self y0 = some rr → Fun Try.prog 48 [.val (sV y0)] (.val (.bool rr))) (s0 : (List UInt8)) (r : Bool) (h : gs_ref06_Reference self s0 = some r) : Fun Try.prog 48 [.val (sV s0)] (.val (.bool r)) := by
  refine Fun.of_bodyQ Try.func48 rfl (by simp [Try.ntmps48]) ?_
  rw [Try.ntmps48, TT.res_48]
  refine QW.view (s' := ⟨tab [(0, pS s0)], tabH [], 0, []⟩) (View.init (by rfl)) zL ?_
  unfold gs_ref06_Reference at h
  refine sR ?_
  refine xz 2 (pB false) ?_
  refine QW.seq ?_
  refine sR ?_
  refine xm 5 (pS s0) ?_
  refine xs 6 rfl (sf_seq (a := s0) (b := ([] : List UInt8)) rfl rfl rfl ?_)
  refine xm 7 (pB (s0 == ([] : List UInt8))) ?_
  refine xg 8 (pS s0) rfl rfl (fun hg => sf_move (v := pS s0) rfl rfl g3) ?_
  refine xg 9 (pI (s0.length : Int)) rfl rfl (fun hg => sf_lenS (l := s0) rfl TT.under_9 rfl g3) ?_
  refine xg 10 (pB (decide ((s0.length : Int) = (32 : Int)))) rfl rfl (fun hg => sf_eq (a := (s0.length : Int)) (b := (32 : Int)) rfl rfl rfl g3) ?_
  refine xs 11 rfl (sf_pickO rfl rfl rfl rfl (fun _ => rfl) (fun hb => by rw [hb]; rfl) ?_)
  refine XK.nz ?_
  refine QW.cond (t := ((s0 == ([] : List UInt8)) || (decide ((s0.length : Int) = (32 : Int))))) rfl zL (fun hb_1 => ?_) (fun hb_1 => ?_)
  · replace h := bT h hb_1
    refine sR ?_
    refine xz 2 (pB true) ?_
    refine QW.ret zL (thR ?_)
    obtain rfl := sO h
    exact Ends.one (.inr rfl) rfl (ResIs.tmp rfl) rfl rfl
  · replace h := bF h hb_1
    refine QW.skip zL (nrm ?_)
    refine QW.seq ?_
    refine sR ?_
    refine xm 12 (pS s0) ?_
    refine xs 13 rfl (sf_lenS (l := s0) rfl TT.under_9 rfl ?_)
    refine xs 14 rfl (sf_gtr (a := (s0.length : Int)) (b := (31 : Int)) rfl rfl rfl ?_)
    refine XK.nz ?_
    refine QW.cond (t := (decide ((31 : Int) < (s0.length : Int)))) rfl zL (fun hb_2 => ?_) (fun hb_2 => ?_)
    · replace h := bT h hb_2
      refine sR ?_
      refine xz 2 (pB false) ?_
      refine QW.ret zL (thR ?_)
      obtain rfl := sO h
      exact Ends.one (.inr rfl) rfl (ResIs.tmp rfl) rfl rfl
    · replace h := bF h hb_2
      refine QW.skip zL (nrm ?_)
      refine sR ?_
      refine xm 16 (pS s0) ?_
      obtain ⟨x_3, hx_4, h⟩ := bO h
      refine xs 17 rfl (sf_call rfl rfl TT.enters_40 rfl (sims_ref06_Get self hself s0 _ hx_4) ?_)
      refine xm 15 (.d (.tuple [.agg (cNode (x_3.1)), .val (.bool (x_3.2))])) ?_
      refine xs 18 rfl (sf_extract rfl rfl rfl ?_)
      refine xs 19 rfl (sf_extract rfl rfl rfl ?_)
      refine xs 3 rfl (sf_alloc (l := (([pI (0), .full (([] : (List UInt8)).map byteD), pS ([] : List UInt8)]) ++ (((Arr.rep 16 ([] : (List UInt8))).1.map eS).map PV.d))) rfl TT.zeroA_52 rfl rfl ?_)
      refine XK.st none rfl rfl (sf_stV (c := (([pI ((x_3.1).fKind), .d (.slice (((x_3.1).fPath).map byteD)), pS ((x_3.1).fValue)]) ++ ((((x_3.1).fKids).1.map eS).map PV.d))) (l' := (([pI ((x_3.1).fKind), .d (.slice (((x_3.1).fPath).map byteD)), pS ((x_3.1).fValue)]) ++ ((((x_3.1).fKids).1.map eS).map PV.d))) rfl TT.tyA_52 rfl rfl rfl rfl (show (cNode (x_3.1)).map PV.d = _ by simp only [cNode, List.map_append]; rfl) (len_app (A := [pI ((x_3.1).fKind), .d (.slice (((x_3.1).fPath).map byteD)), pS ((x_3.1).fValue)]) (b := 16) rfl (len_map2 _) rfl) (le_of_len (len_app (A := [pI (0), .full (([] : (List UInt8)).map byteD), pS ([] : List UInt8)]) (b := 16) rfl (len_map2 _) rfl) bL) (spl_same ((len_app (A := [pI (0), .full (([] : (List UInt8)).map byteD), pS ([] : List UInt8)]) (b := 16) rfl (len_map2 _) rfl).trans (len_app (A := [pI ((x_3.1).fKind), .d (.slice (((x_3.1).fPath).map byteD)), pS ((x_3.1).fValue)]) (b := 16) rfl (len_map2 _) rfl).symm)) ?_)
      refine xz 4 (pB (x_3.2)) ?_
      refine sR ?_
      refine xm 20 (pB (x_3.2)) ?_
      refine xz 2 (pB (x_3.2)) ?_
      refine QW.ret zL ?_
      obtain rfl := sO h
      exact Ends.one (.inr rfl) rfl (ResIs.tmp rfl) rfl rfl
noncomputable def rec_ref06_Reference : Nat → (List UInt8) → Option Bool
  | 0 => fun _ => none
  | n + 1 => fun y0 => gs_ref06_Reference (rec_ref06_Reference n) y0
theorem simr_ref06_Reference : ∀ (n : Nat) (y0 : (List UInt8)) (rr : Bool), rec_ref06_Reference n y0 = some rr → Fun Try.prog 48 [.val (sV y0)] (.val (.bool rr))
  | 0, _, _, h => by cases h
  | n + 1, y0, rr, h => sims_ref06_Reference (rec_ref06_Reference n) (simr_ref06_Reference n) y0 rr h
noncomputable def g_ref06_Reference (y0 : (List UInt8)) : Option Bool := theR (fun n => rec_ref06_Reference n y0)
theorem sim_ref06_Reference (y0 : (List UInt8)) (rr : Bool) (h : g_ref06_Reference y0 = some rr) : Fun Try.prog 48 [.val (sV y0)] (.val (.bool rr)) := by
  obtain ⟨n, hn⟩ := theR_get h
  exact simr_ref06_Reference n y0 rr hn
noncomputable def g_ref06_Get (s0 : (List UInt8)) : Option (Node × Bool) := gs_ref06_Get g_ref06_Reference s0
theorem sim_ref06_Get (s0 : (List UInt8)) (r : (Node × Bool)) (h : g_ref06_Get s0 = some r) : Fun Try.prog 40 [.val (sV s0)] (.tuple [.agg (cNode (r.1)), .val (.bool (r.2))]) := sims_ref06_Get g_ref06_Reference sim_ref06_Reference s0 r h
inductive C_ref01_Same where
  | S
  | L1 (v5 : Int)
noncomputable def step_ref01_Same (a0 : (List (List UInt8))) (b1 : (List (List UInt8))) : C_ref01_Same → Option (C_ref01_Same ⊕ Bool)
  | .S =>
    (bif (!decide ((a0.length : Int) = (b1.length : Int))) then
    some (.inr false)
    else
    some (.inl (.L1 (0))))
  | .L1 v5 =>
    (bif (decide (v5 < (a0.length : Int))) then
    gO (0 ≤ v5 ∧ v5 < (a0.length : Int)) (
    gO (0 ≤ v5 ∧ v5 < (b1.length : Int)) (
    (bif (!((idx a0 v5) == (idx b1 v5))) then
    some (.inr false)
    else
    gO (inI (v5 + (1 : Int))) (
    some (.inl (.L1 (v5 + (1 : Int))))))))
    else
    some (.inr true))
noncomputable def g_ref01_Same (a0 : (List (List UInt8))) (b1 : (List (List UInt8))) : Option Bool := theC (step_ref01_Same a0 b1) .S
theorem sim_ref01_Same (a0 : (List (List UInt8))) (b1 : (List (List UInt8))) (r : Bool) (h : g_ref01_Same a0 b1 = some r) : Fun Try.prog 44 [.slice (a0.map eS), .slice (b1.map eS)] (.val (.bool r)) := by
  refine Fun.of_bodyQ Try.func44 rfl (by simp [Try.ntmps44]) ?_
  rw [Try.ntmps44, TT.res_44]
  refine QW.view (s' := ⟨tab [(0, .d (.slice (a0.map eS))), (1, .d (.slice (b1.map eS)))], tabH [], 0, []⟩) (View.init (by rfl)) zL ?_
  replace h := theC_get h
  obtain ⟨_, h⟩ := h
  obtain ⟨k_0, rfl, h9⟩ := run_succ h; replace h := h9; clear h9; rw [step_ref01_Same] at h
  refine sR ?_
  refine xz 4 (pB false) ?_
  refine QW.seq ?_
  refine sR ?_
  refine xm 6 (.d (.slice (a0.map eS))) ?_
  refine xs 7 rfl (sf_lenL (en := eS) (l := a0) rfl TT.under_62 rfl ?_)
  refine xm 8 (.d (.slice (b1.map eS))) ?_
  refine xs 9 rfl (sf_lenL (en := eS) (l := b1) rfl TT.under_62 rfl ?_)
  refine xs 10 rfl (sf_ne (a := (a0.length : Int)) (b := (b1.length : Int)) rfl rfl rfl ?_)
  refine XK.nz ?_
  refine QW.cond (t := (!decide ((a0.length : Int) = (b1.length : Int)))) rfl zL (fun hb_1 => ?_) (fun hb_1 => ?_)
  · replace h := bGT h hb_1
    refine sR ?_
    refine xz 4 (pB false) ?_
    refine QW.ret zL (thR ?_)
    obtain rfl := sG h
    exact Ends.one (.inr rfl) rfl (ResIs.tmp rfl) rfl rfl
  · replace h := bGF h hb_1
    refine QW.skip zL (nrm ?_)
    refine QW.seq ?_
    refine sR ?_
    refine xz 5 (pI (0)) ?_
    refine QW.block ?_
    refine QW.loop (fun k σ => ∃ v5 : Int, k ≤ k_0 ∧ run (step_ref01_Same a0 b1) k (.L1 v5) = some r ∧ σ = ⟨tab [(0, .d (.slice (a0.map eS))), (1, .d (.slice (b1.map eS))), (5, pI v5)], tabH [], 0, []⟩) k_0 zL ⟨⟨tab [(0, .d (.slice (a0.map eS))), (1, .d (.slice (b1.map eS))), (5, pI (0))], tabH [], 0, []⟩, View.mk 0 [] _ _ _ rfl rfl (by decide) (iC (iC (iC trivial))) trivial rfl zL rfl, 0, Nat.le_refl _, jG h, rfl⟩ ?_
    rintro k_2s _ ⟨v5, k_2h, h, rfl⟩
    obtain ⟨k_2, rfl, h9⟩ := run_succ h; replace h := h9; clear h9; rw [step_ref01_Same] at h
    refine QW.seq ?_
    refine sR ?_
    refine xm 11 (pI v5) ?_
    refine xm 12 (.d (.slice (a0.map eS))) ?_
    refine xs 13 rfl (sf_lenL (en := eS) (l := a0) rfl TT.under_62 rfl ?_)
    refine xs 14 rfl (sf_lss (a := v5) (b := (a0.length : Int)) rfl rfl rfl ?_)
    refine XK.nz ?_
    refine QW.cond (t := (decide (v5 < (a0.length : Int)))) rfl zL (fun hb_3 => ?_) (fun hb_3 => ?_)
    · replace h := bGT h hb_3
      refine QW.skip zL (nrm ?_)
      refine QW.seq ?_
      refine QW.block ?_
      refine QW.seq ?_
      refine QW.region zL (PW.regQ (id := 6) mixedX (M := _) rfl (by kernel_rfl) ?_)
      refine RQ.st (some 17) rfl rfl (sf_move (v := .d (.slice (a0.map eS))) rfl rfl ⟨⟨rfl, rfl⟩, ?_⟩)
      refine RQ.st (some 18) rfl rfl (sf_move (v := pI v5) rfl rfl ⟨⟨rfl, rfl⟩, ?_⟩)
      obtain ⟨c_4, h⟩ := gG h
      refine RQ.st (some 19) rfl rfl (sf_idxA (l := a0) (i := v5) rfl TT.slcA_62 lay_S rfl rfl c_4 ⟨⟨rfl, rfl⟩, ?_⟩)
      refine RQ.st (some 20) rfl rfl (sf_ldC (d := .val (sV (idx a0 v5))) rfl TT.tyA_9 rfl (LdC.one) ⟨⟨rfl, rfl⟩, ?_⟩)
      refine RQ.st (some 21) rfl rfl (sf_move (v := .d (.slice (b1.map eS))) rfl rfl ⟨⟨rfl, rfl⟩, ?_⟩)
      refine RQ.st (some 22) rfl rfl (sf_move (v := pI v5) rfl rfl ⟨⟨rfl, rfl⟩, ?_⟩)
      obtain ⟨c_5, h⟩ := gG h
      refine RQ.st (some 23) rfl rfl (sf_idxA (l := b1) (i := v5) rfl TT.slcA_62 lay_S rfl rfl c_5 ⟨⟨rfl, rfl⟩, ?_⟩)
      refine RQ.st (some 24) rfl rfl (sf_ldC (d := .val (sV (idx b1 v5))) rfl TT.tyA_9 rfl (LdC.one) ⟨⟨rfl, rfl⟩, ?_⟩)
      refine RQ.st (some 25) rfl rfl (sf_sne (a := (idx a0 v5)) (b := (idx b1 v5)) rfl rfl rfl ⟨⟨rfl, rfl⟩, ?_⟩)
      refine RQ.nil (nrm ?_)
      refine QW.cond (t := (!((idx a0 v5) == (idx b1 v5)))) rfl zL (fun hb_6 => ?_) (fun hb_6 => ?_)
      · replace h := bGT h hb_6
        refine sR ?_
        refine xz 4 (pB false) ?_
        refine QW.ret zL (blR (thR (thR (blR (thR ?_)))))
        obtain rfl := sG h
        exact Ends.one (.inr rfl) rfl (ResIs.tmp rfl) rfl rfl
      · replace h := bGF h hb_6
        refine QW.skip zL (blN (nrm ?_))
        refine rG ?_
        refine xm 15 (pI v5) ?_
        obtain ⟨c_7, h⟩ := gG h
        refine xs 16 rfl (sf_add (a := v5) (b := (1 : Int)) rfl rfl rfl c_7 ?_)
        refine xz 5 (pI (v5 + (1 : Int))) ?_
        exact ⟨k_2, by omega, ⟨tab [(0, .d (.slice (a0.map eS))), (1, .d (.slice (b1.map eS))), (5, pI (v5 + (1 : Int)))], tabH [], 0, []⟩, View.mk 0 [] _ _ _ rfl rfl (by decide) (iC (iC (iC trivial))) trivial rfl zL rfl, (v5 + (1 : Int)), by omega, jG h, rfl⟩
    · replace h := bGF h hb_3
      refine QW.exit zL (thX (thX (exE (nrm ?_))))
      refine sR ?_
      refine xz 4 (pB true) ?_
      refine QW.ret zL ?_
      obtain rfl := sG h
      exact Ends.one (.inr rfl) rfl (ResIs.tmp rfl) rfl rfl
end Go.Proofs.Ytoeppofkmcdknaa.K
