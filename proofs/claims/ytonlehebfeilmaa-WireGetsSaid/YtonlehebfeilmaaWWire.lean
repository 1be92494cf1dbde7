/- Package wire: what it reckons. -/
import Derived.Test.YtonlehebfeilmaaWRlp
import Derived.Test.YtonlehebfeilmaaK41
import Derived.KernelRfl
namespace Go.Proofs.Ytonlehebfeilmaa.K
open Go Go.RowKit
set_option linter.unusedSimpArgs false
set_option linter.unusedVariables false
namespace TT
theorem arrA_29 : arrA Try.prog 29 = some (32, 1, false) := by kernel_rfl
theorem arrB_29_32 : arrB Try.prog 29 32 = true := by kernel_rfl
theorem bldA_91 : bldA Try.prog 91 = some ([Value.int IntKind.u8 0, Value.int IntKind.u8 0, Value.int IntKind.u8 0, Value.int IntKind.u8 0, Value.int IntKind.u8 0, Value.int IntKind.u8 0, Value.int IntKind.u8 0, Value.int IntKind.u8 0, Value.int IntKind.u8 0, Value.int IntKind.u8 0, Value.int IntKind.u8 0, Value.int IntKind.u8 0, Value.int IntKind.u8 0, Value.int IntKind.u8 0, Value.int IntKind.u8 0, Value.int IntKind.u8 0, Value.int IntKind.u8 0, Value.int IntKind.u8 0, Value.int IntKind.u8 0, Value.int IntKind.u8 0, Value.int IntKind.u8 0, Value.int IntKind.u8 0, Value.int IntKind.u8 0, Value.int IntKind.u8 0, Value.int IntKind.u8 0, Value.int IntKind.u8 0, Value.int IntKind.u8 0, Value.int IntKind.u8 0, Value.int IntKind.u8 0, Value.int IntKind.u8 0, Value.int IntKind.u8 0, Value.int IntKind.u8 0, Value.slice none 0 0], .inl [(0, 32), (32, 1)]) := by kernel_rfl
theorem enters_102 : entersB Try.prog 102 = true := by kernel_rfl
theorem enters_103 : entersB Try.prog 103 = true := by kernel_rfl
theorem enters_108 : entersB Try.prog 108 = true := by kernel_rfl
theorem enters_109 : entersB Try.prog 109 = true := by kernel_rfl
theorem enters_110 : entersB Try.prog 110 = true := by kernel_rfl
theorem enters_111 : entersB Try.prog 111 = true := by kernel_rfl
theorem enters_112 : entersB Try.prog 112 = true := by kernel_rfl
theorem enters_114 : entersB Try.prog 114 = true := by kernel_rfl
theorem enters_131 : entersB Try.prog 131 = true := by kernel_rfl
theorem enters_132 : entersB Try.prog 132 = true := by kernel_rfl
theorem enters_145 : entersB Try.prog 145 = true := by kernel_rfl
theorem enters_69 : entersB Try.prog 69 = true := by kernel_rfl
theorem enters_72 : entersB Try.prog 72 = true := by kernel_rfl
theorem enters_75 : entersB Try.prog 75 = true := by kernel_rfl
theorem fldA_91_0 : fldA Try.prog 91 0 = some (0, 32, true) := by kernel_rfl
theorem fldA_91_1 : fldA Try.prog 91 1 = some (32, 1, false) := by kernel_rfl
theorem fldA_96_0 : fldA Try.prog 96 0 = some (0, 1, false) := by kernel_rfl
theorem fldA_96_1 : fldA Try.prog 96 1 = some (1, 1, false) := by kernel_rfl
theorem res_108 : Try.f108.results.toList = [.tmp 2] := rfl
theorem res_109 : Try.f109.results.toList = [.tmp 2] := rfl
theorem res_110 : Try.f110.results.toList = [.tmp 4] := rfl
theorem res_111 : Try.f111.results.toList = [.tmp 4] := rfl
theorem res_112 : Try.f112.results.toList = [.tmp 6] := rfl
theorem res_114 : Try.f114.results.toList = [.cell 2 96] := rfl
theorem res_131 : Try.f131.results.toList = [.tmp 2] := rfl
theorem res_132 : Try.f132.results.toList = [.tmp 4] := rfl
theorem res_145 : Try.f145.results.toList = [.tmp 4] := rfl
theorem res_72 : Try.f72.results.toList = [.tmp 2, .tmp 3] := rfl
theorem res_74 : Try.f74.results.toList = [.tmp 2, .tmp 3] := rfl
theorem res_75 : Try.f75.results.toList = [.tmp 2] := rfl
theorem res_76 : Try.f76.results.toList = [.tmp 4] := rfl
theorem res_78 : Try.f78.results.toList = [.cell 2 91, .tmp 3] := rfl
theorem rowA_89 : rowA Try.prog 89 = some (2, 32) := by kernel_rfl
theorem rowA_94 : rowA Try.prog 94 = some (1, 16) := by kernel_rfl
theorem slcA_89 : slcA Try.prog 89 = some (2, 32, true) := by kernel_rfl
theorem slcA_94 : slcA Try.prog 94 = some (1, 16, false) := by kernel_rfl
theorem tyA_29 : tyA Try.prog 29 = some (true, 32) := by kernel_rfl
theorem tyA_89 : tyA Try.prog 89 = some (false, 1) := by kernel_rfl
theorem tyA_91 : tyA Try.prog 91 = some (true, 33) := by kernel_rfl
theorem tyA_94 : tyA Try.prog 94 = some (false, 1) := by kernel_rfl
theorem tyA_96 : tyA Try.prog 96 = some (true, 2) := by kernel_rfl
theorem under_29 : Program.underlying Try.prog 29 = some (.array 32 5) := by kernel_rfl
theorem under_89 : Program.underlying Try.prog 89 = some (.slice 96) := by kernel_rfl
theorem under_94 : Program.underlying Try.prog 94 = some (.slice 9) := by kernel_rfl
theorem zeroA_91 : zeroA Try.prog 91 = some [Value.int IntKind.u8 0, Value.int IntKind.u8 0, Value.int IntKind.u8 0, Value.int IntKind.u8 0, Value.int IntKind.u8 0, Value.int IntKind.u8 0, Value.int IntKind.u8 0, Value.int IntKind.u8 0, Value.int IntKind.u8 0, Value.int IntKind.u8 0, Value.int IntKind.u8 0, Value.int IntKind.u8 0, Value.int IntKind.u8 0, Value.int IntKind.u8 0, Value.int IntKind.u8 0, Value.int IntKind.u8 0, Value.int IntKind.u8 0, Value.int IntKind.u8 0, Value.int IntKind.u8 0, Value.int IntKind.u8 0, Value.int IntKind.u8 0, Value.int IntKind.u8 0, Value.int IntKind.u8 0, Value.int IntKind.u8 0, Value.int IntKind.u8 0, Value.int IntKind.u8 0, Value.int IntKind.u8 0, Value.int IntKind.u8 0, Value.int IntKind.u8 0, Value.int IntKind.u8 0, Value.int IntKind.u8 0, Value.int IntKind.u8 0, Value.slice none 0 0] := by kernel_rfl
theorem zeroA_96 : zeroA Try.prog 96 = some [Value.int IntKind.i64 0, Value.slice none 0 0] := by kernel_rfl
end TT
noncomputable def g_rlp_List0  : Option Item :=
    some (⟨true, ([] : List UInt8), ([] : (List Item))⟩ : Item)

set_option maxRecDepth 20000 in
set_option maxHeartbeats 4000000 in
theorem sim_rlp_List0  (r : Item) (h : g_rlp_List0  = some r) : Spec Try.prog 69 [.full (([] : List Item).map eItem)] (tabH []) 0 (postX (.ret (.agg [.d (.val (.bool true)), .d (.val (sV ([] : List UInt8))), .full (([] : List Item).map eItem)])) (tabH []) 0) := by
  refine Spec.of_bodyS Try.func69 rfl (by simp [Try.ntmps69]) (Nat.le_refl _) ?_
  rw [Try.ntmps69, TT.res_69]
  refine QW.view (s' := ⟨tab [(0, .full (([] : List Item).map eItem))], tabH [], 0, []⟩) (View.initP (Nat.zero_le _) (by rfl)) (Nat.zero_le _) ?_
  unfold g_rlp_List0 at h
  refine QW.seq ?_
  refine QW.region (Nat.zero_le _) (PW.regT (by kernel_rfl) ?_)
  refine XK.st (some 2) rfl rfl (sf_alloc (l := [.d (.val (.bool false)), .d (.val (sV ([] : List UInt8))), .full (([] : (List Item)).map eItem)]) rfl TT.zeroA_80 rfl rfl ?_)
  refine XK.nil (nrm ?_)
  refine QW.seq ?_
  refine QW.region (Nat.zero_le _) (PW.regT (by kernel_rfl) ?_)
  refine XK.st (some 3) rfl rfl (sf_move (v := .full (([] : List Item).map eItem)) rfl rfl ?_)
  refine XK.pr (v := .full (([] : (List Item)).map eItem)) (some 4) rfl rfl (pr_appE (en := eItem) (l := ([] : (List Item))) (l2 := ([] : List Item)) rfl TT.rowA_78 TT.under_78 rfl lay_Item rfl rfl rfl) ?_
  refine XK.st (some 5) rfl rfl (sf_bld (v := .agg [.d (.val (.bool true)), .d (.val (sV ([] : List UInt8))), .full (([] : (List Item)).map eItem)]) rfl TT.bldA_80 (build_of rfl (fill_step (cells' := [.d (.val (.bool true)), .d (.val (sV ([] : List UInt8))), .full (([] : (List Item)).map eItem)]) rfl rfl rfl (Nat.le_of_ble_eq_true rfl) rfl (fill_step (cells' := [.d (.val (.bool true)), .d (.val (sV ([] : List UInt8))), .full (([] : (List Item)).map eItem)]) rfl rfl rfl (Nat.le_of_ble_eq_true rfl) rfl fill_nil))) ?_)
  refine XK.st none rfl rfl (sf_stV (l' := [.d (.val (.bool true)), .d (.val (sV ([] : List UInt8))), .full (([] : (List Item)).map eItem)]) rfl TT.tyA_80 rfl rfl rfl rfl rfl rfl (by simp) rfl ?_)
  refine XK.nil (nrm ?_)
  refine QW.ret (Nat.zero_le _) ?_
  obtain rfl := sO h
  exact EndsS.one (s' := ⟨tab [(2, .vptr 0 0)], tabH [.var [.d (.val (.bool true)), .d (.val (sV ([] : List UInt8))), .full (([] : (List Item)).map eItem)]], 1, []⟩) (.inr rfl) (View.mk 1 [0] _ _ _ rfl rfl (by decide) (And.intro (Imp.of_eq rfl) trivial) (And.intro rfl trivial) rfl (Nat.zero_le _) rfl) rfl (Nat.le_of_ble_eq_true rfl) (fun i hi => tabH_app [] [.var [.d (.val (.bool true)), .d (.val (sV ([] : List UInt8))), .full (([] : (List Item)).map eItem)]] i hi) rfl (by simp [HO.idsLts, HO.idsLt, PV.idsLts, PV.idsLt, idsLts_d]) (ResIs.cell rfl rfl TT.tyA_80 ⟨⟨by simp, by simp⟩, rfl⟩) (by simp [PV.idsLts, PV.idsLt, idsLts_d])

noncomputable def g_wire_link_1 (s0 : (List UInt8)) : Option Bool :=
    some ((s0 == ([] : List UInt8)) || (decide ((66000 : Int) < (s0.length : Int))))

set_option maxRecDepth 20000 in
set_option maxHeartbeats 4000000 in
theorem sim_wire_link_1 (s0 : (List UInt8)) (r : Bool) (h : g_wire_link_1 s0 = some r) : Fun Try.prog 131 [.val (sV s0)] (.val (.bool r)) := by
  refine Fun.of_bodyQ Try.func131 rfl (by simp [Try.ntmps131]) ?_
  rw [Try.ntmps131, TT.res_131]
  refine QW.view (s' := ⟨tab [(0, .d (.val (sV s0)))], tabH [], 0, []⟩) (View.init (by rfl)) (Nat.zero_le _) ?_
  unfold g_wire_link_1 at h
  refine QW.seq ?_
  refine QW.region (Nat.zero_le _) (PW.regT (by kernel_rfl) ?_)
  refine XK.st (some 2) rfl rfl (sf_assign (v := .d (.val (.bool false))) rfl rfl ?_)
  refine XK.nil (nrm ?_)
  refine QW.seq ?_
  refine QW.region (Nat.zero_le _) (PW.regT (by kernel_rfl) ?_)
  refine XK.st (some 3) rfl rfl (sf_move (v := .d (.val (sV s0))) rfl rfl ?_)
  refine XK.st (some 4) rfl rfl (sf_seq (a := s0) (b := ([] : List UInt8)) rfl rfl rfl ?_)
  refine XK.st (some 5) rfl rfl (sf_move (v := .d (.val (.bool (s0 == ([] : List UInt8))))) rfl rfl ?_)
  refine XK.gd (v := .d (.val (sV s0))) (T := []) (some 6) rfl rfl (by repeat (first | exact trivial | refine And.intro (fun hg => by first | rfl | exact hg | exact (Bool.and_eq_true_iff.mp hg).1 | exact (Bool.and_eq_true_iff.mp (Bool.and_eq_true_iff.mp hg).1).1) ?_)) (fun hg => sf_move (v := .d (.val (sV s0))) rfl rfl ⟨⟨rfl, rfl, rfl⟩, rfl, Imp.refl⟩) (fun _ _ hi => nomatch hi) ?_
  refine XK.gd (v := .d (.val (.int .i64 (s0.length : Int)))) (T := []) (some 7) rfl rfl (by repeat (first | exact trivial | refine And.intro (fun hg => by first | rfl | exact hg | exact (Bool.and_eq_true_iff.mp hg).1 | exact (Bool.and_eq_true_iff.mp (Bool.and_eq_true_iff.mp hg).1).1) ?_)) (fun hg => sf_lenS (l := s0) rfl TT.under_9 rfl ⟨⟨rfl, rfl, rfl⟩, rfl, Imp.refl⟩) (fun _ _ hi => nomatch hi) ?_
  refine XK.gd (v := .d (.val (.bool (decide ((66000 : Int) < (s0.length : Int)))))) (T := []) (some 8) rfl rfl (by repeat (first | exact trivial | refine And.intro (fun hg => by first | rfl | exact hg | exact (Bool.and_eq_true_iff.mp hg).1 | exact (Bool.and_eq_true_iff.mp (Bool.and_eq_true_iff.mp hg).1).1) ?_)) (fun hg => sf_gtr (a := (s0.length : Int)) (b := (66000 : Int)) rfl rfl rfl ⟨⟨rfl, rfl, rfl⟩, rfl, Imp.refl⟩) (fun _ _ hi => nomatch hi) ?_
  refine XK.st (some 9) rfl rfl (sf_pickO rfl rfl rfl rfl (fun _ => rfl) (fun hb => by rw [hb]; rfl) ?_)
  refine XK.st (some 2) rfl rfl (sf_assign (v := .d (.val (.bool ((s0 == ([] : List UInt8)) || (decide ((66000 : Int) < (s0.length : Int))))))) rfl rfl ?_)
  refine XK.nil (nrm ?_)
  refine QW.ret (Nat.zero_le _) ?_
  obtain rfl := sO h
  exact Ends.one (.inr rfl) rfl (ResIs.tmp rfl) rfl rfl

inductive C_slices_IndexFunc_api_Proof_string where
  | S
  | L1 (v8 : Int)

noncomputable def step_slices_IndexFunc_api_Proof_string (v0 : (List (List UInt8))) (f1 : (List UInt8) → Option Bool) : C_slices_IndexFunc_api_Proof_string → Option (C_slices_IndexFunc_api_Proof_string ⊕ Int)
  | .S =>
    some (.inl (.L1 (0)))
  | .L1 v8 =>
    (bif (decide (v8 < (v0.length : Int))) then
    gO (0 ≤ v8 ∧ v8 < (v0.length : Int)) (
    ((f1 (idx v0 v8)).bind fun (x4 : Bool) =>
    (bif x4 then
    some (.inr v8)
    else
    gO (inI (v8 + (1 : Int))) (
    some (.inl (.L1 (v8 + (1 : Int))))))))
    else
    some (.inr (-1)))

noncomputable def g_slices_IndexFunc_api_Proof_string (v0 : (List (List UInt8))) (f1 : (List UInt8) → Option Bool) : Option Int := theC (step_slices_IndexFunc_api_Proof_string v0 f1) .S

set_option maxRecDepth 20000 in
set_option maxHeartbeats 4000000 in
theorem sim_slices_IndexFunc_api_Proof_string (v0 : (List (List UInt8))) (f1 : (List UInt8) → Option Bool) (fn1 : Nat) (cp1 : List D) (he1 : entersB Try.prog fn1 = true) (hf1 : ∀ y0 r, f1 y0 = some r → Fun Try.prog fn1 ([.val (sV y0)] ++ cp1) (.val (.bool r))) (r : Int) (h : g_slices_IndexFunc_api_Proof_string v0 f1 = some r) : Fun Try.prog 145 [.slice (v0.map eS), .clo fn1 cp1] (.val (.int .i64 r)) := by
  refine Fun.of_bodyQ Try.func145 rfl (by simp [Try.ntmps145]) ?_
  rw [Try.ntmps145, TT.res_145]
  refine QW.view (s' := ⟨tab [(0, .d (.slice (v0.map eS))), (1, .d (.clo fn1 cp1))], tabH [], 0, []⟩) (View.init (by rfl)) (Nat.zero_le _) ?_
  replace h := theC_get h
  obtain ⟨_, h⟩ := h
  obtain ⟨k0, rfl, h9⟩ := run_succ h; replace h := h9; clear h9
  refine QW.seq ?_
  refine QW.region (Nat.zero_le _) (PW.regT (by kernel_rfl) ?_)
  refine XK.st (some 4) rfl rfl (sf_assign (v := .d (.val (.int .i64 (0)))) rfl rfl ?_)
  refine XK.nil (nrm ?_)
  refine QW.seq ?_
  refine QW.seq ?_
  refine QW.region (Nat.zero_le _) (PW.regT (by kernel_rfl) ?_)
  refine XK.st (some 6) rfl rfl (sf_move (v := .d (.slice (v0.map eS))) rfl rfl ?_)
  refine XK.st (some 7) rfl rfl (sf_lenL (en := eS) (l := v0) rfl TT.under_94 rfl ?_)
  refine XK.st (some 8) rfl rfl (sf_move (v := .d (.val (.int .i64 (0)))) rfl rfl ?_)
  refine XK.nil (nrm ?_)
  refine QW.block ?_
  refine QW.loop (fun k σ => ∃ v8 : Int, k ≤ k0 ∧ run (step_slices_IndexFunc_api_Proof_string v0 f1) k (.L1 v8) = some r ∧ σ = ⟨tab [(0, .d (.slice (v0.map eS))), (1, .d (.clo fn1 cp1)), (7, .d (.val (.int .i64 (v0.length : Int)))), (8, .d (.val (.int .i64 v8)))], tabH [], 0, []⟩) k0 (Nat.zero_le _) ⟨⟨tab [(0, .d (.slice (v0.map eS))), (1, .d (.clo fn1 cp1)), (7, .d (.val (.int .i64 (v0.length : Int)))), (8, .d (.val (.int .i64 (0))))], tabH [], 0, []⟩, View.mk 0 [] _ _ _ rfl rfl (by decide) (And.intro (Imp.of_eq rfl) (And.intro (Imp.of_eq rfl) (And.intro (Imp.of_eq rfl) (And.intro (Imp.of_eq rfl) trivial)))) trivial rfl (Nat.zero_le _) rfl, 0, Nat.le_refl _, jG h, rfl⟩ ?_
  rintro k1s _ ⟨v8, k1h, h, rfl⟩
  obtain ⟨k1, rfl, h9⟩ := run_succ h; replace h := h9; clear h9
  refine QW.seq ?_
  refine QW.region (Nat.zero_le _) (PW.regT (by kernel_rfl) ?_)
  refine XK.st (some 9) rfl rfl (sf_lss (a := v8) (b := (v0.length : Int)) rfl rfl rfl ?_)
  refine XK.nil (nrm ?_)
  refine QW.seq ?_
  refine QW.cond (t := (decide (v8 < (v0.length : Int)))) rfl (Nat.zero_le _) (fun hb2 => ?_) (fun hb2 => ?_)
  · replace h := bGT h hb2
    refine QW.skip (Nat.zero_le _) (nrm ?_)
    refine QW.seq ?_
    refine QW.block ?_
    refine QW.seq ?_
    refine QW.region (Nat.zero_le _) (PW.regT (by kernel_rfl) ?_)
    refine XK.st (some 10) rfl rfl (sf_move (v := .d (.val (.int .i64 v8))) rfl rfl ?_)
    refine XK.st (some 5) rfl rfl (sf_assign (v := .d (.val (.int .i64 v8))) rfl rfl ?_)
    refine XK.nil (nrm ?_)
    refine QW.seq ?_
    refine QW.region (Nat.zero_le _) (PW.regT (by kernel_rfl) ?_)
    refine XK.st (some 11) rfl rfl (sf_move (v := .d (.clo fn1 cp1)) rfl rfl ?_)
    refine XK.st (some 12) rfl rfl (sf_move (v := .d (.slice (v0.map eS))) rfl rfl ?_)
    refine XK.st (some 13) rfl rfl (sf_move (v := .d (.val (.int .i64 v8))) rfl rfl ?_)
    obtain ⟨c3, h⟩ := gG h
    refine XK.st (some 14) rfl rfl (sf_idxA (l := v0) (i := v8) rfl TT.slcA_94 lay_S rfl rfl c3 ?_)
    refine XK.st (some 15) rfl rfl (sf_ldC (d := .val (sV (idx v0 v8))) rfl TT.tyA_9 rfl (LdC.one) ?_)
    obtain ⟨x4, hx5, h⟩ := bG h
    refine XK.st (some 16) rfl rfl (sf_clo rfl rfl rfl he1 rfl (hf1 (idx v0 v8) _ hx5) ?_)
    refine XK.nil (nrm ?_)
    refine QW.cond (t := x4) rfl (Nat.zero_le _) (fun hb6 => ?_) (fun hb6 => ?_)
    · replace h := bGT h hb6
      refine QW.seq ?_
      refine QW.region (Nat.zero_le _) (PW.regT (by kernel_rfl) ?_)
      refine XK.st (some 17) rfl rfl (sf_move (v := .d (.val (.int .i64 v8))) rfl rfl ?_)
      refine XK.st (some 4) rfl rfl (sf_assign (v := .d (.val (.int .i64 v8))) rfl rfl ?_)
      refine XK.nil (nrm ?_)
      refine QW.ret (Nat.zero_le _) (blR (thR (thR (blR (thR ?_)))))
      obtain rfl := sG h
      exact Ends.one (.inr rfl) rfl (ResIs.tmp rfl) rfl rfl
    · replace h := bGF h hb6
      refine QW.skip (Nat.zero_le _) (blN (nrm ?_))
      refine QW.region (Nat.zero_le _) (PW.regT (by kernel_rfl) ?_)
      obtain ⟨c7, h⟩ := gG h
      refine XK.st (some 18) rfl rfl (sf_add (a := v8) (b := (1 : Int)) rfl rfl rfl c7 ?_)
      refine XK.st (some 8) rfl rfl (sf_move (v := .d (.val (.int .i64 (v8 + (1 : Int))))) rfl rfl ?_)
      refine XK.nil (nrm ?_)
      exact ⟨k1, by omega, ⟨tab [(0, .d (.slice (v0.map eS))), (1, .d (.clo fn1 cp1)), (7, .d (.val (.int .i64 (v0.length : Int)))), (8, .d (.val (.int .i64 (v8 + (1 : Int)))))], tabH [], 0, []⟩, View.mk 0 [] _ _ _ rfl rfl (by decide) (And.intro (Imp.of_eq rfl) (And.intro (Imp.of_eq rfl) (And.intro (Imp.of_eq rfl) (And.intro (Imp.of_eq rfl) trivial)))) trivial rfl (Nat.zero_le _) rfl, (v8 + (1 : Int)), by omega, jG h, rfl⟩
  · replace h := bGF h hb2
    refine QW.exit (Nat.zero_le _) (thX (thX (exE (nrm ?_))))
    refine QW.seq ?_
    refine QW.region (Nat.zero_le _) (PW.regT (by kernel_rfl) ?_)
    refine XK.st (some 4) rfl rfl (sf_assign (v := .d (.val (.int .i64 (-1)))) rfl rfl ?_)
    refine XK.nil (nrm ?_)
    refine QW.ret (Nat.zero_le _) ?_
    obtain rfl := sG h
    exact Ends.one (.inr rfl) rfl (ResIs.tmp rfl) rfl rfl

noncomputable def g_slices_ContainsFunc_api_Proof_string (v0 : (List (List UInt8))) (f1 : (List UInt8) → Option Bool) : Option Bool :=
    ((g_slices_IndexFunc_api_Proof_string v0 f1).bind fun (x1 : Int) =>
    some (decide ((0 : Int) ≤ x1)))

set_option maxRecDepth 20000 in
set_option maxHeartbeats 4000000 in
theorem sim_slices_ContainsFunc_api_Proof_string (v0 : (List (List UInt8))) (f1 : (List UInt8) → Option Bool) (fn1 : Nat) (cp1 : List D) (he1 : entersB Try.prog fn1 = true) (hf1 : ∀ y0 r, f1 y0 = some r → Fun Try.prog fn1 ([.val (sV y0)] ++ cp1) (.val (.bool r))) (r : Bool) (h : g_slices_ContainsFunc_api_Proof_string v0 f1 = some r) : Fun Try.prog 132 [.slice (v0.map eS), .clo fn1 cp1] (.val (.bool r)) := by
  refine Fun.of_bodyQ Try.func132 rfl (by simp [Try.ntmps132]) ?_
  rw [Try.ntmps132, TT.res_132]
  refine QW.view (s' := ⟨tab [(0, .d (.slice (v0.map eS))), (1, .d (.clo fn1 cp1))], tabH [], 0, []⟩) (View.init (by rfl)) (Nat.zero_le _) ?_
  unfold g_slices_ContainsFunc_api_Proof_string at h
  refine QW.seq ?_
  refine QW.region (Nat.zero_le _) (PW.regT (by kernel_rfl) ?_)
  refine XK.st (some 4) rfl rfl (sf_assign (v := .d (.val (.bool false))) rfl rfl ?_)
  refine XK.nil (nrm ?_)
  refine QW.seq ?_
  refine QW.region (Nat.zero_le _) (PW.regT (by kernel_rfl) ?_)
  refine XK.st (some 5) rfl rfl (sf_move (v := .d (.slice (v0.map eS))) rfl rfl ?_)
  refine XK.st (some 6) rfl rfl (sf_move (v := .d (.clo fn1 cp1)) rfl rfl ?_)
  obtain ⟨x1, hx2, h⟩ := bO h
  refine XK.st (some 7) rfl rfl (sf_call rfl rfl TT.enters_145 rfl (sim_slices_IndexFunc_api_Proof_string v0 f1 fn1 cp1 he1 hf1 _ hx2) ?_)
  refine XK.st (some 8) rfl rfl (sf_geq (a := x1) (b := (0 : Int)) rfl rfl rfl ?_)
  refine XK.st (some 4) rfl rfl (sf_assign (v := .d (.val (.bool (decide ((0 : Int) ≤ x1))))) rfl rfl ?_)
  refine XK.nil (nrm ?_)
  refine QW.ret (Nat.zero_le _) ?_
  obtain rfl := sO h
  exact Ends.one (.inr rfl) rfl (ResIs.tmp rfl) rfl rfl

noncomputable def g_wire_link (l0 : Link) : Option Bool :=
    ((bif ((((decide ((0 : Int) ≤ (l0.fEpoch))) && (decide ((l0.fEpoch) ≤ (1048576 : Int)))) && (decide (((l0.fProof).length : Int) ≤ (70 : Int)))) == true) then g_slices_ContainsFunc_api_Proof_string (l0.fProof) (fun y0 => g_wire_link_1 y0) else some default).bind fun (x1 : Bool) =>
    some ((((decide ((0 : Int) ≤ (l0.fEpoch))) && (decide ((l0.fEpoch) ≤ (1048576 : Int)))) && (decide (((l0.fProof).length : Int) ≤ (70 : Int)))) && (!x1)))

set_option maxRecDepth 20000 in
set_option maxHeartbeats 4000000 in
theorem sim_wire_link (l0 : Link) (r : Bool) (h : g_wire_link l0 = some r) : Fun Try.prog 109 [.agg (cLink l0)] (.val (.bool r)) := by
  refine Fun.of_bodyQ Try.func109 rfl (by simp [Try.ntmps109]) ?_
  rw [Try.ntmps109, TT.res_109]
  refine QW.view (s' := ⟨tab [(0, .d (.agg (cLink l0)))], tabH [], 0, []⟩) (View.init (by rfl)) (Nat.zero_le _) ?_
  unfold g_wire_link at h
  refine QW.seq ?_
  refine QW.region (Nat.zero_le _) (PW.regT (by kernel_rfl) ?_)
  refine XK.fz (some 1) rfl rfl (sf_boxF (ds := cLink l0) rfl rfl rfl rfl rfl ?_)
  refine XK.st (some 2) rfl rfl (sf_assign (v := .d (.val (.bool false))) rfl rfl ?_)
  refine XK.nil (nrm ?_)
  refine QW.seq ?_
  refine QW.region (Nat.zero_le _) (PW.regT (by kernel_rfl) ?_)
  refine XK.st (some 3) rfl rfl (sf_assign (v := .d (.clo 131 [])) rfl rfl ?_)
  refine XK.nil (nrm ?_)
  refine QW.seq ?_
  refine QW.region (Nat.zero_le _) (PW.regT (by kernel_rfl) ?_)
  refine XK.st (some 4) rfl rfl (sf_fldC rfl TT.fldA_96_0 (by decide) rfl ?_)
  refine XK.st (some 5) rfl rfl (sf_ldC (d := .val (.int .i64 (l0.fEpoch))) rfl TT.tyA_3 rfl (LdC.one) ?_)
  refine XK.st (some 6) rfl rfl (sf_geq (a := (l0.fEpoch)) (b := (0 : Int)) rfl rfl rfl ?_)
  refine XK.st (some 7) rfl rfl (sf_move (v := .d (.val (.bool (decide ((0 : Int) ≤ (l0.fEpoch)))))) rfl rfl ?_)
  refine XK.gd (v := .d (.cptr ((cLink l0).drop 0))) (T := []) (some 8) rfl rfl (by repeat (first | exact trivial | refine And.intro (fun hg => by first | rfl | exact hg | exact (Bool.and_eq_true_iff.mp hg).1 | exact (Bool.and_eq_true_iff.mp (Bool.and_eq_true_iff.mp hg).1).1) ?_)) (fun hg => sf_fldC rfl TT.fldA_96_0 (by decide) rfl ⟨⟨rfl, rfl, rfl⟩, rfl, Imp.refl⟩) (fun _ _ hi => nomatch hi) ?_
  refine XK.gd (v := .d (.val (.int .i64 (l0.fEpoch)))) (T := []) (some 9) rfl rfl (by repeat (first | exact trivial | refine And.intro (fun hg => by first | rfl | exact hg | exact (Bool.and_eq_true_iff.mp hg).1 | exact (Bool.and_eq_true_iff.mp (Bool.and_eq_true_iff.mp hg).1).1) ?_)) (fun hg => sf_ldC (d := .val (.int .i64 (l0.fEpoch))) rfl TT.tyA_3 rfl (LdC.one) ⟨⟨rfl, rfl, rfl⟩, rfl, Imp.refl⟩) (fun _ _ hi => nomatch hi) ?_
  refine XK.gd (v := .d (.val (.bool (decide ((l0.fEpoch) ≤ (1048576 : Int)))))) (T := []) (some 10) rfl rfl (by repeat (first | exact trivial | refine And.intro (fun hg => by first | rfl | exact hg | exact (Bool.and_eq_true_iff.mp hg).1 | exact (Bool.and_eq_true_iff.mp (Bool.and_eq_true_iff.mp hg).1).1) ?_)) (fun hg => sf_leq (a := (l0.fEpoch)) (b := (1048576 : Int)) rfl rfl rfl ⟨⟨rfl, rfl, rfl⟩, rfl, Imp.refl⟩) (fun _ _ hi => nomatch hi) ?_
  refine XK.st (some 11) rfl rfl (sf_pickA rfl rfl rfl rfl (fun hb => by rw [hb]; rfl) (fun _ => rfl) ?_)
  refine XK.st (some 12) rfl rfl (sf_move (v := .d (.val (.bool ((decide ((0 : Int) ≤ (l0.fEpoch))) && (decide ((l0.fEpoch) ≤ (1048576 : Int))))))) rfl rfl ?_)
  refine XK.gd (v := .d (.cptr ((cLink l0).drop 1))) (T := []) (some 13) rfl rfl (by repeat (first | exact trivial | refine And.intro (fun hg => by first | rfl | exact hg | exact (Bool.and_eq_true_iff.mp hg).1 | exact (Bool.and_eq_true_iff.mp (Bool.and_eq_true_iff.mp hg).1).1) ?_)) (fun hg => sf_fldC rfl TT.fldA_96_1 (by decide) rfl ⟨⟨rfl, rfl, rfl⟩, rfl, Imp.refl⟩) (fun _ _ hi => nomatch hi) ?_
  refine XK.gd (v := .d (.slice ((l0.fProof).map eS))) (T := []) (some 14) rfl rfl (by repeat (first | exact trivial | refine And.intro (fun hg => by first | rfl | exact hg | exact (Bool.and_eq_true_iff.mp hg).1 | exact (Bool.and_eq_true_iff.mp (Bool.and_eq_true_iff.mp hg).1).1) ?_)) (fun hg => sf_ldC (d := .slice ((l0.fProof).map eS)) rfl TT.tyA_94 rfl (LdC.one) ⟨⟨rfl, rfl, rfl⟩, rfl, Imp.refl⟩) (fun _ _ hi => nomatch hi) ?_
  refine XK.gd (v := .d (.val (.int .i64 ((l0.fProof).length : Int)))) (T := []) (some 15) rfl rfl (by repeat (first | exact trivial | refine And.intro (fun hg => by first | rfl | exact hg | exact (Bool.and_eq_true_iff.mp hg).1 | exact (Bool.and_eq_true_iff.mp (Bool.and_eq_true_iff.mp hg).1).1) ?_)) (fun hg => sf_lenL (en := eS) (l := l0.fProof) rfl TT.under_94 rfl ⟨⟨rfl, rfl, rfl⟩, rfl, Imp.refl⟩) (fun _ _ hi => nomatch hi) ?_
  refine XK.gd (v := .d (.val (.bool (decide (((l0.fProof).length : Int) ≤ (70 : Int)))))) (T := []) (some 16) rfl rfl (by repeat (first | exact trivial | refine And.intro (fun hg => by first | rfl | exact hg | exact (Bool.and_eq_true_iff.mp hg).1 | exact (Bool.and_eq_true_iff.mp (Bool.and_eq_true_iff.mp hg).1).1) ?_)) (fun hg => sf_leq (a := ((l0.fProof).length : Int)) (b := (70 : Int)) rfl rfl rfl ⟨⟨rfl, rfl, rfl⟩, rfl, Imp.refl⟩) (fun _ _ hi => nomatch hi) ?_
  refine XK.st (some 17) rfl rfl (sf_pickA rfl rfl rfl rfl (fun hb => by rw [hb]; rfl) (fun _ => rfl) ?_)
  refine XK.st (some 18) rfl rfl (sf_move (v := .d (.val (.bool (((decide ((0 : Int) ≤ (l0.fEpoch))) && (decide ((l0.fEpoch) ≤ (1048576 : Int)))) && (decide (((l0.fProof).length : Int) ≤ (70 : Int))))))) rfl rfl ?_)
  refine XK.gd (v := .d (.cptr ((cLink l0).drop 1))) (T := []) (some 19) rfl rfl (by repeat (first | exact trivial | refine And.intro (fun hg => by first | rfl | exact hg | exact (Bool.and_eq_true_iff.mp hg).1 | exact (Bool.and_eq_true_iff.mp (Bool.and_eq_true_iff.mp hg).1).1) ?_)) (fun hg => sf_fldC rfl TT.fldA_96_1 (by decide) rfl ⟨⟨rfl, rfl, rfl⟩, rfl, Imp.refl⟩) (fun _ _ hi => nomatch hi) ?_
  refine XK.gd (v := .d (.slice ((l0.fProof).map eS))) (T := []) (some 20) rfl rfl (by repeat (first | exact trivial | refine And.intro (fun hg => by first | rfl | exact hg | exact (Bool.and_eq_true_iff.mp hg).1 | exact (Bool.and_eq_true_iff.mp (Bool.and_eq_true_iff.mp hg).1).1) ?_)) (fun hg => sf_ldC (d := .slice ((l0.fProof).map eS)) rfl TT.tyA_94 rfl (LdC.one) ⟨⟨rfl, rfl, rfl⟩, rfl, Imp.refl⟩) (fun _ _ hi => nomatch hi) ?_
  refine XK.gd (v := .d (.clo 131 [])) (T := []) (some 21) rfl rfl (by repeat (first | exact trivial | refine And.intro (fun hg => by first | rfl | exact hg | exact (Bool.and_eq_true_iff.mp hg).1 | exact (Bool.and_eq_true_iff.mp (Bool.and_eq_true_iff.mp hg).1).1) ?_)) (fun hg => sf_move (v := .d (.clo 131 [])) rfl rfl ⟨⟨rfl, rfl, rfl⟩, rfl, Imp.refl⟩) (fun _ _ hi => nomatch hi) ?_
  obtain ⟨x1, hx2, h⟩ := bO h
  refine XK.gd (v := .d (.val (.bool x1))) (T := []) (some 22) rfl rfl (by repeat (first | exact trivial | refine And.intro (fun hg => by first | rfl | exact hg | exact (Bool.and_eq_true_iff.mp hg).1 | exact (Bool.and_eq_true_iff.mp (Bool.and_eq_true_iff.mp hg).1).1) ?_)) (fun hg => sf_call rfl rfl TT.enters_132 rfl (sim_slices_ContainsFunc_api_Proof_string (l0.fProof) (fun y0 => g_wire_link_1 y0) 131 [] TT.enters_131 (fun y0 _ h => sim_wire_link_1 y0 _ h) _ (bT hx2 hg)) ⟨⟨rfl, rfl, rfl⟩, rfl, Imp.refl⟩) (fun _ _ hi => nomatch hi) ?_
  refine XK.gd (v := .d (.val (.bool (!x1)))) (T := []) (some 23) rfl rfl (by repeat (first | exact trivial | refine And.intro (fun hg => by first | rfl | exact hg | exact (Bool.and_eq_true_iff.mp hg).1 | exact (Bool.and_eq_true_iff.mp (Bool.and_eq_true_iff.mp hg).1).1) ?_)) (fun hg => sf_not rfl rfl ⟨⟨rfl, rfl, rfl⟩, rfl, Imp.refl⟩) (fun _ _ hi => nomatch hi) ?_
  refine XK.st (some 24) rfl rfl (sf_pickA rfl rfl rfl rfl (fun hb => by rw [hb]; rfl) (fun _ => rfl) ?_)
  refine XK.st (some 2) rfl rfl (sf_assign (v := .d (.val (.bool ((((decide ((0 : Int) ≤ (l0.fEpoch))) && (decide ((l0.fEpoch) ≤ (1048576 : Int)))) && (decide (((l0.fProof).length : Int) ≤ (70 : Int)))) && (!x1))))) rfl rfl ?_)
  refine XK.nil (nrm ?_)
  refine QW.ret (Nat.zero_le _) ?_
  obtain rfl := sO h
  exact Ends.one (.inr rfl) rfl (ResIs.tmp rfl) rfl rfl

inductive C_wire_Check where
  | S
  | L1 (v18 : Int)

noncomputable def step_wire_Check (w0 : Witness) : C_wire_Check → Option (C_wire_Check ⊕ Int)
  | .S =>
    (bif ((decide (((w0.fLinks).length : Int) < (1 : Int))) || (decide ((64 : Int) < ((w0.fLinks).length : Int)))) then
    some (.inr (2))
    else
    some (.inl (.L1 (0))))
  | .L1 v18 =>
    (bif (decide (v18 < ((w0.fLinks).length : Int))) then
    gO (0 ≤ v18 ∧ v18 < ((w0.fLinks).length : Int)) (
    ((g_wire_link (idx (w0.fLinks) v18)).bind fun (x5 : Bool) =>
    gO ((((!x5) == false) && ((decide ((0 : Int) < v18)) == true)) = true → inI (((idx (w0.fLinks) v18).fEpoch) - (1 : Int))) (
    gO ((((!x5) == false) && ((decide ((0 : Int) < v18)) == true)) = true → inI (v18 - (1 : Int))) (
    gO ((((!x5) == false) && ((decide ((0 : Int) < v18)) == true)) = true → 0 ≤ (v18 - (1 : Int)) ∧ (v18 - (1 : Int)) < ((w0.fLinks).length : Int)) (
    (bif ((!x5) || ((decide ((0 : Int) < v18)) && (!decide ((((idx (w0.fLinks) v18).fEpoch) - (1 : Int)) = ((idx (w0.fLinks) (v18 - (1 : Int))).fEpoch))))) then
    some (.inr (2))
    else
    gO (inI (v18 + (1 : Int))) (
    some (.inl (.L1 (v18 + (1 : Int)))))))))))
    else
    some (.inr (0)))

noncomputable def g_wire_Check (w0 : Witness) : Option Int := theC (step_wire_Check w0) .S

set_option maxRecDepth 20000 in
set_option maxHeartbeats 4000000 in
theorem sim_wire_Check (w0 : Witness) (r : Int) (h : g_wire_Check w0 = some r) : Fun Try.prog 75 [.agg (cWitness w0)] (.val (.int .i64 r)) := by
  refine Fun.of_bodyQ Try.func75 rfl (by simp [Try.ntmps75]) ?_
  rw [Try.ntmps75, TT.res_75]
  refine QW.view (s' := ⟨tab [(0, .d (.agg (cWitness w0)))], tabH [], 0, []⟩) (View.init (by rfl)) (Nat.zero_le _) ?_
  replace h := theC_get h
  obtain ⟨_, h⟩ := h
  obtain ⟨k0, rfl, h9⟩ := run_succ h; replace h := h9; clear h9
  refine QW.seq ?_
  refine QW.region (Nat.zero_le _) (PW.regT (by kernel_rfl) ?_)
  refine XK.fz (some 1) rfl rfl (sf_boxF (ds := cWitness w0) rfl rfl rfl rfl toDs_map ?_)
  refine XK.st (some 2) rfl rfl (sf_assign (v := .d (.val (.int .i64 (0)))) rfl rfl ?_)
  refine XK.nil (nrm ?_)
  refine QW.seq ?_
  refine QW.seq ?_
  refine QW.region (Nat.zero_le _) (PW.regT (by kernel_rfl) ?_)
  refine XK.st (some 5) rfl rfl (sf_fldC rfl TT.fldA_91_1 (by decide) rfl ?_)
  refine XK.st (some 6) rfl rfl (sf_ldC (d := .slice ((w0.fLinks).map eLink)) rfl TT.tyA_89 rfl (ldc_Witness_1 _) ?_)
  refine XK.st (some 7) rfl rfl (sf_lenL (en := eLink) (l := w0.fLinks) rfl TT.under_89 rfl ?_)
  refine XK.st (some 8) rfl rfl (sf_lss (a := ((w0.fLinks).length : Int)) (b := (1 : Int)) rfl rfl rfl ?_)
  refine XK.st (some 9) rfl rfl (sf_move (v := .d (.val (.bool (decide (((w0.fLinks).length : Int) < (1 : Int)))))) rfl rfl ?_)
  refine XK.gd (v := .d (.cptr ((cWitness w0).drop 32))) (T := []) (some 10) rfl rfl (by repeat (first | exact trivial | refine And.intro (fun hg => by first | rfl | exact hg | exact (Bool.and_eq_true_iff.mp hg).1 | exact (Bool.and_eq_true_iff.mp (Bool.and_eq_true_iff.mp hg).1).1) ?_)) (fun hg => sf_fldC rfl TT.fldA_91_1 (by decide) rfl ⟨⟨rfl, rfl, rfl⟩, rfl, Imp.refl⟩) (fun _ _ hi => nomatch hi) ?_
  refine XK.gd (v := .d (.slice ((w0.fLinks).map eLink))) (T := []) (some 11) rfl rfl (by repeat (first | exact trivial | refine And.intro (fun hg => by first | rfl | exact hg | exact (Bool.and_eq_true_iff.mp hg).1 | exact (Bool.and_eq_true_iff.mp (Bool.and_eq_true_iff.mp hg).1).1) ?_)) (fun hg => sf_ldC (d := .slice ((w0.fLinks).map eLink)) rfl TT.tyA_89 rfl (ldc_Witness_1 _) ⟨⟨rfl, rfl, rfl⟩, rfl, Imp.refl⟩) (fun _ _ hi => nomatch hi) ?_
  refine XK.gd (v := .d (.val (.int .i64 ((w0.fLinks).length : Int)))) (T := []) (some 12) rfl rfl (by repeat (first | exact trivial | refine And.intro (fun hg => by first | rfl | exact hg | exact (Bool.and_eq_true_iff.mp hg).1 | exact (Bool.and_eq_true_iff.mp (Bool.and_eq_true_iff.mp hg).1).1) ?_)) (fun hg => sf_lenL (en := eLink) (l := w0.fLinks) rfl TT.under_89 rfl ⟨⟨rfl, rfl, rfl⟩, rfl, Imp.refl⟩) (fun _ _ hi => nomatch hi) ?_
  refine XK.gd (v := .d (.val (.bool (decide ((64 : Int) < ((w0.fLinks).length : Int)))))) (T := []) (some 13) rfl rfl (by repeat (first | exact trivial | refine And.intro (fun hg => by first | rfl | exact hg | exact (Bool.and_eq_true_iff.mp hg).1 | exact (Bool.and_eq_true_iff.mp (Bool.and_eq_true_iff.mp hg).1).1) ?_)) (fun hg => sf_gtr (a := ((w0.fLinks).length : Int)) (b := (64 : Int)) rfl rfl rfl ⟨⟨rfl, rfl, rfl⟩, rfl, Imp.refl⟩) (fun _ _ hi => nomatch hi) ?_
  refine XK.st (some 14) rfl rfl (sf_pickO rfl rfl rfl rfl (fun _ => rfl) (fun hb => by rw [hb]; rfl) ?_)
  refine XK.nil (nrm ?_)
  refine QW.cond (t := ((decide (((w0.fLinks).length : Int) < (1 : Int))) || (decide ((64 : Int) < ((w0.fLinks).length : Int))))) rfl (Nat.zero_le _) (fun hb1 => ?_) (fun hb1 => ?_)
  · replace h := bGT h hb1
    refine QW.seq ?_
    refine QW.region (Nat.zero_le _) (PW.regT (by kernel_rfl) ?_)
    refine XK.st (some 2) rfl rfl (sf_assign (v := .d (.val (.int .i64 (2)))) rfl rfl ?_)
    refine XK.nil (nrm ?_)
    refine QW.ret (Nat.zero_le _) (thR ?_)
    obtain rfl := sG h
    exact Ends.one (.inr rfl) rfl (ResIs.tmp rfl) rfl rfl
  · replace h := bGF h hb1
    refine QW.skip (Nat.zero_le _) (nrm ?_)
    refine QW.seq ?_
    refine QW.seq ?_
    refine QW.region (Nat.zero_le _) (PW.regT (by kernel_rfl) ?_)
    refine XK.st (some 15) rfl rfl (sf_fldC rfl TT.fldA_91_1 (by decide) rfl ?_)
    refine XK.st (some 16) rfl rfl (sf_ldC (d := .slice ((w0.fLinks).map eLink)) rfl TT.tyA_89 rfl (ldc_Witness_1 _) ?_)
    refine XK.st (some 17) rfl rfl (sf_lenL (en := eLink) (l := w0.fLinks) rfl TT.under_89 rfl ?_)
    refine XK.st (some 18) rfl rfl (sf_move (v := .d (.val (.int .i64 (0)))) rfl rfl ?_)
    refine XK.nil (nrm ?_)
    refine QW.block ?_
    refine QW.loop (fun k σ => ∃ v18 : Int, k ≤ k0 ∧ run (step_wire_Check w0) k (.L1 v18) = some r ∧ σ = ⟨tab [(1, .d (.cptr (cWitness w0))), (16, .d (.slice ((w0.fLinks).map eLink))), (17, .d (.val (.int .i64 ((w0.fLinks).length : Int)))), (18, .d (.val (.int .i64 v18)))], tabH [], 0, []⟩) k0 (Nat.zero_le _) ⟨⟨tab [(1, .d (.cptr (cWitness w0))), (16, .d (.slice ((w0.fLinks).map eLink))), (17, .d (.val (.int .i64 ((w0.fLinks).length : Int)))), (18, .d (.val (.int .i64 (0))))], tabH [], 0, []⟩, View.mk 0 [] _ _ _ rfl rfl (by decide) (And.intro (Imp.of_eq rfl) (And.intro (Imp.of_eq rfl) (And.intro (Imp.of_eq rfl) (And.intro (Imp.of_eq rfl) trivial)))) trivial rfl (Nat.zero_le _) rfl, 0, Nat.le_refl _, jG h, rfl⟩ ?_
    rintro k2s _ ⟨v18, k2h, h, rfl⟩
    obtain ⟨k2, rfl, h9⟩ := run_succ h; replace h := h9; clear h9
    refine QW.seq ?_
    refine QW.region (Nat.zero_le _) (PW.regT (by kernel_rfl) ?_)
    refine XK.st (some 19) rfl rfl (sf_lss (a := v18) (b := ((w0.fLinks).length : Int)) rfl rfl rfl ?_)
    refine XK.nil (nrm ?_)
    refine QW.seq ?_
    refine QW.cond (t := (decide (v18 < ((w0.fLinks).length : Int)))) rfl (Nat.zero_le _) (fun hb3 => ?_) (fun hb3 => ?_)
    · replace h := bGT h hb3
      refine QW.skip (Nat.zero_le _) (nrm ?_)
      refine QW.seq ?_
      refine QW.block ?_
      refine QW.seq ?_
      refine QW.region (Nat.zero_le _) (PW.regT (by kernel_rfl) ?_)
      refine XK.st (some 20) rfl rfl (sf_move (v := .d (.val (.int .i64 v18))) rfl rfl ?_)
      obtain ⟨c4, h⟩ := gG h
      refine XK.st (some 21) rfl rfl (sf_idxA (l := w0.fLinks) (i := v18) rfl TT.slcA_89 lay_Link rfl rfl c4 ?_)
      refine XK.st (some 22) rfl rfl (sf_ldC (d := .agg (cLink (idx (w0.fLinks) v18))) rfl TT.tyA_96 rfl (⟨by simp [cLink], rfl⟩) ?_)
      refine XK.st (some 4) rfl rfl (sf_alloc (l := [.d (.val (.int .i64 (0))), .full (([] : (List (List UInt8))).map eS)]) rfl TT.zeroA_96 rfl rfl ?_)
      refine XK.st (some 3) rfl rfl (sf_assign (v := .d (.val (.int .i64 v18))) rfl rfl ?_)
      refine XK.st none rfl rfl (sf_stV (l' := [.d (.val (.int .i64 ((idx (w0.fLinks) v18).fEpoch))), .d (.slice (((idx (w0.fLinks) v18).fProof).map eS))]) rfl TT.tyA_96 rfl rfl rfl rfl rfl rfl (by simp) rfl ?_)
      refine XK.nil (nrm ?_)
      refine QW.seq ?_
      refine QW.region (Nat.zero_le _) (PW.regQ (id := 6) mixedX (M := _) rfl (by kernel_rfl) ?_)
      refine RQ.as (some 23) rfl rfl (sf_ldV (v := .agg [.d (.val (.int .i64 ((idx (w0.fLinks) v18).fEpoch))), .d (.slice (((idx (w0.fLinks) v18).fProof).map eS))]) rfl TT.tyA_96 rfl rfl ⟨⟨by simp, by simp⟩, rfl⟩ ⟨⟨rfl, rfl⟩, .d (.agg (cLink (idx (w0.fLinks) v18))), (Imp.toD rfl), ?_⟩)
      obtain ⟨x5, hx6, h⟩ := bG h
      refine RQ.st (some 24) rfl rfl (sf_call rfl rfl TT.enters_109 rfl (sim_wire_link (idx (w0.fLinks) v18) _ hx6) ⟨⟨rfl, rfl⟩, ?_⟩)
      refine RQ.st (some 25) rfl rfl (sf_not rfl rfl ⟨⟨rfl, rfl⟩, ?_⟩)
      refine RQ.st (some 26) rfl rfl (sf_move (v := .d (.val (.bool (!x5)))) rfl rfl ⟨⟨rfl, rfl⟩, ?_⟩)
      refine RQ.gd (v := .d (.val (.int .i64 v18))) (T := []) (some 27) rfl rfl (by repeat (first | exact trivial | refine And.intro (fun hg => by first | rfl | exact hg | exact (Bool.and_eq_true_iff.mp hg).1 | exact (Bool.and_eq_true_iff.mp (Bool.and_eq_true_iff.mp hg).1).1) ?_)) (fun hg => sf_move (v := .d (.val (.int .i64 v18))) rfl rfl ⟨⟨rfl, rfl, rfl⟩, rfl, Imp.refl⟩) (fun _ _ hi => nomatch hi) ?_
      refine RQ.gd (v := .d (.val (.bool (decide ((0 : Int) < v18))))) (T := []) (some 28) rfl rfl (by repeat (first | exact trivial | refine And.intro (fun hg => by first | rfl | exact hg | exact (Bool.and_eq_true_iff.mp hg).1 | exact (Bool.and_eq_true_iff.mp (Bool.and_eq_true_iff.mp hg).1).1) ?_)) (fun hg => sf_gtr (a := v18) (b := (0 : Int)) rfl rfl rfl ⟨⟨rfl, rfl, rfl⟩, rfl, Imp.refl⟩) (fun _ _ hi => nomatch hi) ?_
      refine RQ.gd (v := .d (.val (.bool (decide ((0 : Int) < v18))))) (T := []) (some 29) rfl rfl (by repeat (first | exact trivial | refine And.intro (fun hg => by first | rfl | exact hg | exact (Bool.and_eq_true_iff.mp hg).1 | exact (Bool.and_eq_true_iff.mp (Bool.and_eq_true_iff.mp hg).1).1) ?_)) (fun hg => sf_move (v := .d (.val (.bool (decide ((0 : Int) < v18))))) rfl rfl ⟨⟨rfl, rfl, rfl⟩, rfl, Imp.refl⟩) (fun _ _ hi => nomatch hi) ?_
      refine RQ.gd (v := .vptr 0 0) (T := []) (some 30) rfl rfl (by repeat (first | exact trivial | refine And.intro (fun hg => by first | rfl | exact hg | exact (Bool.and_eq_true_iff.mp hg).1 | exact (Bool.and_eq_true_iff.mp (Bool.and_eq_true_iff.mp hg).1).1) ?_)) (fun hg => sf_fldV rfl TT.fldA_96_0 (by decide) rfl ⟨⟨rfl, rfl, rfl⟩, rfl, Imp.refl⟩) (fun _ _ hi => nomatch hi) ?_
      refine RQ.gd (v := .d (.val (.int .i64 ((idx (w0.fLinks) v18).fEpoch)))) (T := [0]) (some 31) rfl rfl (by repeat (first | exact trivial | refine And.intro (fun hg => by first | rfl | exact hg | exact (Bool.and_eq_true_iff.mp hg).1 | exact (Bool.and_eq_true_iff.mp (Bool.and_eq_true_iff.mp hg).1).1) ?_)) (fun hg => sf_ldV (v := .d (.val (.int .i64 ((idx (w0.fLinks) v18).fEpoch)))) rfl TT.tyA_3 rfl rfl ⟨⟨by simp, by simp⟩, rfl⟩ ⟨⟨rfl, rfl, rfl⟩, rfl, Imp.refl⟩) (fun _ i hi => by simp only [List.mem_singleton] at hi; subst hi; decide) ?_
      obtain ⟨c7, h⟩ := gG h
      refine RQ.gd (v := .d (.val (.int .i64 (((idx (w0.fLinks) v18).fEpoch) - (1 : Int))))) (T := []) (some 32) rfl rfl (by repeat (first | exact trivial | refine And.intro (fun hg => by first | rfl | exact hg | exact (Bool.and_eq_true_iff.mp hg).1 | exact (Bool.and_eq_true_iff.mp (Bool.and_eq_true_iff.mp hg).1).1) ?_)) (fun hg => sf_sub (a := ((idx (w0.fLinks) v18).fEpoch)) (b := (1 : Int)) rfl rfl rfl (c7 hg) ⟨⟨rfl, rfl, rfl⟩, rfl, Imp.refl⟩) (fun _ _ hi => nomatch hi) ?_
      refine RQ.gd (v := .d (.cptr ((cWitness w0).drop 32))) (T := []) (some 33) rfl rfl (by repeat (first | exact trivial | refine And.intro (fun hg => by first | rfl | exact hg | exact (Bool.and_eq_true_iff.mp hg).1 | exact (Bool.and_eq_true_iff.mp (Bool.and_eq_true_iff.mp hg).1).1) ?_)) (fun hg => sf_fldC rfl TT.fldA_91_1 (by decide) rfl ⟨⟨rfl, rfl, rfl⟩, rfl, Imp.refl⟩) (fun _ _ hi => nomatch hi) ?_
      refine RQ.gd (v := .d (.slice ((w0.fLinks).map eLink))) (T := []) (some 34) rfl rfl (by repeat (first | exact trivial | refine And.intro (fun hg => by first | rfl | exact hg | exact (Bool.and_eq_true_iff.mp hg).1 | exact (Bool.and_eq_true_iff.mp (Bool.and_eq_true_iff.mp hg).1).1) ?_)) (fun hg => sf_ldC (d := .slice ((w0.fLinks).map eLink)) rfl TT.tyA_89 rfl (ldc_Witness_1 _) ⟨⟨rfl, rfl, rfl⟩, rfl, Imp.refl⟩) (fun _ _ hi => nomatch hi) ?_
      refine RQ.gd (v := .d (.val (.int .i64 v18))) (T := []) (some 35) rfl rfl (by repeat (first | exact trivial | refine And.intro (fun hg => by first | rfl | exact hg | exact (Bool.and_eq_true_iff.mp hg).1 | exact (Bool.and_eq_true_iff.mp (Bool.and_eq_true_iff.mp hg).1).1) ?_)) (fun hg => sf_move (v := .d (.val (.int .i64 v18))) rfl rfl ⟨⟨rfl, rfl, rfl⟩, rfl, Imp.refl⟩) (fun _ _ hi => nomatch hi) ?_
      obtain ⟨c8, h⟩ := gG h
      refine RQ.gd (v := .d (.val (.int .i64 (v18 - (1 : Int))))) (T := []) (some 36) rfl rfl (by repeat (first | exact trivial | refine And.intro (fun hg => by first | rfl | exact hg | exact (Bool.and_eq_true_iff.mp hg).1 | exact (Bool.and_eq_true_iff.mp (Bool.and_eq_true_iff.mp hg).1).1) ?_)) (fun hg => sf_sub (a := v18) (b := (1 : Int)) rfl rfl rfl (c8 hg) ⟨⟨rfl, rfl, rfl⟩, rfl, Imp.refl⟩) (fun _ _ hi => nomatch hi) ?_
      obtain ⟨c9, h⟩ := gG h
      refine RQ.gd (v := .d (.cptr (cLink (idx (w0.fLinks) (v18 - (1 : Int)))))) (T := []) (some 37) rfl rfl (by repeat (first | exact trivial | refine And.intro (fun hg => by first | rfl | exact hg | exact (Bool.and_eq_true_iff.mp hg).1 | exact (Bool.and_eq_true_iff.mp (Bool.and_eq_true_iff.mp hg).1).1) ?_)) (fun hg => sf_idxA (l := w0.fLinks) (i := (v18 - (1 : Int))) rfl TT.slcA_89 lay_Link rfl rfl (c9 hg) ⟨⟨rfl, rfl, rfl⟩, rfl, Imp.refl⟩) (fun _ _ hi => nomatch hi) ?_
      refine RQ.gd (v := .d (.cptr ((cLink (idx (w0.fLinks) (v18 - (1 : Int)))).drop 0))) (T := []) (some 38) rfl rfl (by repeat (first | exact trivial | refine And.intro (fun hg => by first | rfl | exact hg | exact (Bool.and_eq_true_iff.mp hg).1 | exact (Bool.and_eq_true_iff.mp (Bool.and_eq_true_iff.mp hg).1).1) ?_)) (fun hg => sf_fldC rfl TT.fldA_96_0 (by decide) rfl ⟨⟨rfl, rfl, rfl⟩, rfl, Imp.refl⟩) (fun _ _ hi => nomatch hi) ?_
      refine RQ.gd (v := .d (.val (.int .i64 ((idx (w0.fLinks) (v18 - (1 : Int))).fEpoch)))) (T := []) (some 39) rfl rfl (by repeat (first | exact trivial | refine And.intro (fun hg => by first | rfl | exact hg | exact (Bool.and_eq_true_iff.mp hg).1 | exact (Bool.and_eq_true_iff.mp (Bool.and_eq_true_iff.mp hg).1).1) ?_)) (fun hg => sf_ldC (d := .val (.int .i64 ((idx (w0.fLinks) (v18 - (1 : Int))).fEpoch))) rfl TT.tyA_3 rfl (LdC.one) ⟨⟨rfl, rfl, rfl⟩, rfl, Imp.refl⟩) (fun _ _ hi => nomatch hi) ?_
      refine RQ.gd (v := .d (.val (.bool (!decide ((((idx (w0.fLinks) v18).fEpoch) - (1 : Int)) = ((idx (w0.fLinks) (v18 - (1 : Int))).fEpoch)))))) (T := []) (some 40) rfl rfl (by repeat (first | exact trivial | refine And.intro (fun hg => by first | rfl | exact hg | exact (Bool.and_eq_true_iff.mp hg).1 | exact (Bool.and_eq_true_iff.mp (Bool.and_eq_true_iff.mp hg).1).1) ?_)) (fun hg => sf_ne (a := (((idx (w0.fLinks) v18).fEpoch) - (1 : Int))) (b := ((idx (w0.fLinks) (v18 - (1 : Int))).fEpoch)) rfl rfl rfl ⟨⟨rfl, rfl, rfl⟩, rfl, Imp.refl⟩) (fun _ _ hi => nomatch hi) ?_
      refine RQ.gp (some 41) rfl rfl rfl rfl rfl rfl (fun h => h) (fun hg hb => by first | (rw [hg, hb]; rfl) | (simp only [hg, hb]; rfl) | simp_all) (fun _ _ => rfl) ((decide ((0 : Int) < v18)) && (!decide ((((idx (w0.fLinks) v18).fEpoch) - (1 : Int)) = ((idx (w0.fLinks) (v18 - (1 : Int))).fEpoch)))) (bif_and _ _) ?_
      refine RQ.st (some 42) rfl rfl (sf_pickO rfl rfl rfl rfl (fun _ => rfl) (fun hb => by rw [hb]; rfl) ⟨⟨rfl, rfl⟩, ?_⟩)
      refine RQ.nil (nrm ?_)
      refine QW.cond (t := ((!x5) || ((decide ((0 : Int) < v18)) && (!decide ((((idx (w0.fLinks) v18).fEpoch) - (1 : Int)) = ((idx (w0.fLinks) (v18 - (1 : Int))).fEpoch)))))) rfl (Nat.zero_le _) (fun hb10 => ?_) (fun hb10 => ?_)
      · replace h := bGT h hb10
        refine QW.seq ?_
        refine QW.region (Nat.zero_le _) (PW.regT (by kernel_rfl) ?_)
        refine XK.st (some 2) rfl rfl (sf_assign (v := .d (.val (.int .i64 (2)))) rfl rfl ?_)
        refine XK.nil (nrm ?_)
        refine QW.ret (Nat.zero_le _) (blR (thR (thR (blR (thR ?_)))))
        obtain rfl := sG h
        exact Ends.one (.inr rfl) rfl (ResIs.tmp rfl) rfl rfl
      · replace h := bGF h hb10
        refine QW.skip (Nat.zero_le _) (blN (nrm ?_))
        refine QW.region (Nat.zero_le _) (PW.regT (by kernel_rfl) ?_)
        obtain ⟨c11, h⟩ := gG h
        refine XK.st (some 43) rfl rfl (sf_add (a := v18) (b := (1 : Int)) rfl rfl rfl c11 ?_)
        refine XK.st (some 18) rfl rfl (sf_move (v := .d (.val (.int .i64 (v18 + (1 : Int))))) rfl rfl ?_)
        refine XK.nil (nrm ?_)
        exact ⟨k2, by omega, ⟨tab [(1, .d (.cptr (cWitness w0))), (16, .d (.slice ((w0.fLinks).map eLink))), (17, .d (.val (.int .i64 ((w0.fLinks).length : Int)))), (18, .d (.val (.int .i64 (v18 + (1 : Int)))))], tabH [], 0, []⟩, View.mk 0 [] _ _ _ rfl rfl (by decide) (And.intro (Imp.of_eq rfl) (And.intro (Imp.of_eq rfl) (And.intro (Imp.of_eq rfl) (And.intro (Imp.of_eq rfl) trivial)))) trivial rfl (Nat.zero_le _) rfl, (v18 + (1 : Int)), by omega, jG h, rfl⟩
    · replace h := bGF h hb3
      refine QW.exit (Nat.zero_le _) (thX (thX (exE (nrm ?_))))
      refine QW.seq ?_
      refine QW.region (Nat.zero_le _) (PW.regT (by kernel_rfl) ?_)
      refine XK.st (some 2) rfl rfl (sf_assign (v := .d (.val (.int .i64 (0)))) rfl rfl ?_)
      refine XK.nil (nrm ?_)
      refine QW.ret (Nat.zero_le _) ?_
      obtain rfl := sG h
      exact Ends.one (.inr rfl) rfl (ResIs.tmp rfl) rfl rfl

inductive C_wire_number where
  | S
  | L1 (n0_2 : Int) (v3 : (List UInt8))

noncomputable def step_wire_number (n0 : Int) : C_wire_number → Option (C_wire_number ⊕ (List UInt8))
  | .S =>
    some (.inl (.L1 n0 ([] : List UInt8)))
  | .L1 n0_2 v3 =>
    (bif (decide ((0 : Int) < n0_2)) then
    gO (([(u8I n0_2)] : List UInt8).length + v3.length ≤ 9223372036854775807) (
    some (.inl (.L1 (shrI n0_2 (8 : Int)) (([(u8I n0_2)] : List UInt8) ++ v3))))
    else
    some (.inr v3))

noncomputable def g_wire_number (n0 : Int) : Option (List UInt8) := theC (step_wire_number n0) .S

set_option maxRecDepth 20000 in
set_option maxHeartbeats 4000000 in
theorem sim_wire_number (n0 : Int) (r : (List UInt8)) (h : g_wire_number n0 = some r) : Fun Try.prog 108 [.val (.int .i64 n0)] (.val (sV r)) := by
  refine Fun.of_bodyQ Try.func108 rfl (by simp [Try.ntmps108]) ?_
  rw [Try.ntmps108, TT.res_108]
  refine QW.view (s' := ⟨tab [(0, .d (.val (.int .i64 n0)))], tabH [], 0, []⟩) (View.init (by rfl)) (Nat.zero_le _) ?_
  replace h := theC_get h
  obtain ⟨_, h⟩ := h
  obtain ⟨k0, rfl, h9⟩ := run_succ h; replace h := h9; clear h9
  refine QW.seq ?_
  refine QW.region (Nat.zero_le _) (PW.regT (by kernel_rfl) ?_)
  refine XK.st (some 2) rfl rfl (sf_assign (v := .d (.val (sV ([] : List UInt8)))) rfl rfl ?_)
  refine XK.nil (nrm ?_)
  refine QW.seq ?_
  refine QW.region (Nat.zero_le _) (PW.regT (by kernel_rfl) ?_)
  refine XK.st (some 3) rfl rfl (sf_assign (v := .d (.val (sV ([] : List UInt8)))) rfl rfl ?_)
  refine XK.nil (nrm ?_)
  refine QW.seq ?_
  refine QW.block ?_
  refine QW.loop (fun k σ => ∃ n0_2 : Int, ∃ v3 : (List UInt8), k ≤ k0 ∧ run (step_wire_number n0) k (.L1 n0_2 v3) = some r ∧ σ = ⟨tab [(0, .d (.val (.int .i64 n0_2))), (3, .d (.val (sV v3)))], tabH [], 0, []⟩) k0 (Nat.zero_le _) ⟨⟨tab [(0, .d (.val (.int .i64 n0))), (3, .d (.val (sV ([] : List UInt8))))], tabH [], 0, []⟩, View.mk 0 [] _ _ _ rfl rfl (by decide) (And.intro (Imp.of_eq rfl) (And.intro (Imp.of_eq rfl) trivial)) trivial rfl (Nat.zero_le _) rfl, n0, ([] : List UInt8), Nat.le_refl _, jG h, rfl⟩ ?_
  rintro k1s _ ⟨n0_2, v3, k1h, h, rfl⟩
  obtain ⟨k1, rfl, h9⟩ := run_succ h; replace h := h9; clear h9
  refine QW.seq ?_
  refine QW.seq ?_
  refine QW.region (Nat.zero_le _) (PW.regT (by kernel_rfl) ?_)
  refine XK.st (some 4) rfl rfl (sf_move (v := .d (.val (.int .i64 n0_2))) rfl rfl ?_)
  refine XK.st (some 5) rfl rfl (sf_gtr (a := n0_2) (b := (0 : Int)) rfl rfl rfl ?_)
  refine XK.nil (nrm ?_)
  refine QW.cond (t := (decide ((0 : Int) < n0_2))) rfl (Nat.zero_le _) (fun hb2 => ?_) (fun hb2 => ?_)
  · replace h := bGT h hb2
    refine QW.skip (Nat.zero_le _) (nrm ?_)
    refine QW.seq ?_
    refine QW.block ?_
    refine QW.region (Nat.zero_le _) (PW.regT (by kernel_rfl) ?_)
    refine XK.st (some 8) rfl rfl (sf_move (v := .d (.val (.int .i64 n0_2))) rfl rfl ?_)
    refine XK.st (some 9) rfl rfl (sf_toU8 (n := n0_2) rfl TT.under_3 TT.under_5 rfl ?_)
    refine XK.st (some 10) rfl rfl (sf_row (en := byteD) (l := ([(u8I n0_2)] : List UInt8)) rfl TT.rowA_37 lay_byte rfl rfl (by decide) (by simp [solids, partsP, evP, ofVal, PV.solid, putS_at, tab, unS, unT, unC, asCond, Value.oneCell']) ?_)
    refine XK.st (some 11) rfl rfl (sf_b2s (l := ([(u8I n0_2)] : List UInt8)) rfl TT.under_37 TT.under_5 TT.under_9 rfl ?_)
    refine XK.st (some 12) rfl rfl (sf_move (v := .d (.val (sV v3))) rfl rfl ?_)
    obtain ⟨c3, h⟩ := gG h
    refine XK.st (some 13) rfl rfl (sf_cat (a := ([(u8I n0_2)] : List UInt8)) (b := v3) rfl rfl rfl c3 ?_)
    refine XK.st (some 3) rfl rfl (sf_assign (v := .d (.val (sV (([(u8I n0_2)] : List UInt8) ++ v3)))) rfl rfl ?_)
    refine XK.nil (blN (nrm ?_))
    refine QW.region (Nat.zero_le _) (PW.regT (by kernel_rfl) ?_)
    refine XK.st (some 6) rfl rfl (sf_move (v := .d (.val (.int .i64 n0_2))) rfl rfl ?_)
    refine XK.st (some 7) rfl rfl (sf_shr (a := n0_2) (b := (8 : Int)) rfl rfl rfl (by decide) ?_)
    refine XK.st (some 0) rfl rfl (sf_assign (v := .d (.val (.int .i64 (shrI n0_2 (8 : Int))))) rfl rfl ?_)
    refine XK.nil (nrm ?_)
    exact ⟨k1, by omega, ⟨tab [(0, .d (.val (.int .i64 (shrI n0_2 (8 : Int))))), (3, .d (.val (sV (([(u8I n0_2)] : List UInt8) ++ v3))))], tabH [], 0, []⟩, View.mk 0 [] _ _ _ rfl rfl (by decide) (And.intro (Imp.of_eq rfl) (And.intro (Imp.of_eq rfl) trivial)) trivial rfl (Nat.zero_le _) rfl, (shrI n0_2 (8 : Int)), (([(u8I n0_2)] : List UInt8) ++ v3), by omega, jG h, rfl⟩
  · replace h := bGF h hb2
    refine QW.exit (Nat.zero_le _) (thX (thX (exE (nrm ?_))))
    refine QW.seq ?_
    refine QW.region (Nat.zero_le _) (PW.regT (by kernel_rfl) ?_)
    refine XK.st (some 14) rfl rfl (sf_move (v := .d (.val (sV v3))) rfl rfl ?_)
    refine XK.st (some 2) rfl rfl (sf_assign (v := .d (.val (sV v3))) rfl rfl ?_)
    refine XK.nil (nrm ?_)
    refine QW.ret (Nat.zero_le _) ?_
    obtain rfl := sG h
    exact Ends.one (.inr rfl) rfl (ResIs.tmp rfl) rfl rfl

inductive C_wire_Put where
  | S
  | L1 (v22 : Int) (v5_2 : (List Item))
  | L2 (v22_5 : Int) (v28_4 : (List (List UInt8))) (v29_4 : Int) (v30_3 : Int) (v5_2_5 : (List Item)) (v7_0_4 : Int) (v7_1_4 : (List (List UInt8))) (v8_2_3 : (List Item))

noncomputable def step_wire_Put (w0 : Witness) : C_wire_Put → Option (C_wire_Put ⊕ ((List UInt8) × Int))
  | .S =>
    ((g_wire_Check w0).bind fun (x1 : Int) =>
    (bif (!decide (x1 = (0 : Int))) then
    some (.inr (([] : List UInt8), x1))
    else
    ((g_rlp_List0 ).bind fun (x6 : Item) =>
    some (.inl (.L1 (0) ([] : List Item))))))
  | .L1 v22 v5_2 =>
    (bif (decide (v22 < ((w0.fLinks).length : Int))) then
    gO (0 ≤ v22 ∧ v22 < ((w0.fLinks).length : Int)) (
    ((g_rlp_List0 ).bind fun (x12 : Item) =>
    some (.inl (.L2 v22 ((idx (w0.fLinks) v22).fProof) (((idx (w0.fLinks) v22).fProof).length : Int) (0) v5_2 ((idx (w0.fLinks) v22).fEpoch) ((idx (w0.fLinks) v22).fProof) ([] : List Item)))))
    else
    ((g_rlp_Text ((w0.fKey).1)).bind fun (x28 : Item) =>
    ((g_rlp_List ([x28, (⟨true, ([] : List UInt8), v5_2⟩ : Item)] : List Item)).bind fun (x30 : Item) =>
    ((g_rlp_Put x30).bind fun (x32 : ((List UInt8) × Int)) =>
    (bif ((!decide ((x32.2) = (0 : Int))) || (decide ((4194304 : Int) < ((x32.1).length : Int)))) then
    some (.inr (([] : List UInt8), 4))
    else
    some (.inr (x32.1, 0)))))))
  | .L2 v22_5 v28_4 v29_4 v30_3 v5_2_5 v7_0_4 v7_1_4 v8_2_3 =>
    (bif (decide (v30_3 < v29_4)) then
    gO (0 ≤ v30_3 ∧ v30_3 < (v28_4.length : Int)) (
    ((g_rlp_Text (idx v28_4 v30_3)).bind fun (x16 : Item) =>
    gO ((v8_2_3.length + ([x16] : List Item).length) * 48 ≤ 140737488355328) (
    gO (inI (v30_3 + (1 : Int))) (
    some (.inl (.L2 v22_5 v28_4 v29_4 (v30_3 + (1 : Int)) v5_2_5 v7_0_4 v7_1_4 (v8_2_3 ++ ([x16] : List Item))))))))
    else
    ((g_wire_number v7_0_4).bind fun (x20 : (List UInt8)) =>
    ((g_rlp_Text x20).bind fun (x22 : Item) =>
    ((g_rlp_List ([x22, (⟨true, ([] : List UInt8), v8_2_3⟩ : Item)] : List Item)).bind fun (x24 : Item) =>
    gO ((v5_2_5.length + ([x24] : List Item).length) * 48 ≤ 140737488355328) (
    gO (inI (v22_5 + (1 : Int))) (
    some (.inl (.L1 (v22_5 + (1 : Int)) (v5_2_5 ++ ([x24] : List Item))))))))))

noncomputable def g_wire_Put (w0 : Witness) : Option ((List UInt8) × Int) := theC (step_wire_Put w0) .S

set_option maxRecDepth 20000 in
set_option maxHeartbeats 4000000 in
theorem sim_wire_Put (w0 : Witness) (r : ((List UInt8) × Int)) (h : g_wire_Put w0 = some r) : Fun Try.prog 72 [.agg (cWitness w0)] (.tuple [.val (sV (r.1)), .val (.int .i64 (r.2))]) := by
  refine Fun.of_bodyQ Try.func72 rfl (by simp [Try.ntmps72]) ?_
  rw [Try.ntmps72, TT.res_72]
  refine QW.view (s' := ⟨tab [(0, .d (.agg (cWitness w0)))], tabH [], 0, []⟩) (View.init (by rfl)) (Nat.zero_le _) ?_
  replace h := theC_get h
  obtain ⟨_, h⟩ := h
  obtain ⟨k0, rfl, h9⟩ := run_succ h; replace h := h9; clear h9
  refine QW.seq ?_
  refine QW.region (Nat.zero_le _) (PW.regT (by kernel_rfl) ?_)
  refine XK.fz (some 1) rfl rfl (sf_boxF (ds := cWitness w0) rfl rfl rfl rfl toDs_map ?_)
  refine XK.st (some 2) rfl rfl (sf_assign (v := .d (.val (sV ([] : List UInt8)))) rfl rfl ?_)
  refine XK.st (some 3) rfl rfl (sf_assign (v := .d (.val (.int .i64 (0)))) rfl rfl ?_)
  refine XK.nil (nrm ?_)
  refine QW.seq ?_
  refine QW.seq ?_
  refine QW.region (Nat.zero_le _) (PW.regT (by kernel_rfl) ?_)
  refine XK.st (some 13) rfl rfl (sf_ldC (d := .agg (cWitness w0)) rfl TT.tyA_91 rfl (⟨by rw [lay_Witness.len]; decide, congrArg D.agg (List.take_of_length_le (by rw [lay_Witness.len]; decide))⟩) ?_)
  obtain ⟨x1, hx2, h⟩ := bG h
  refine XK.st (some 14) rfl rfl (sf_call rfl rfl TT.enters_75 rfl (sim_wire_Check w0 _ hx2) ?_)
  refine XK.st (some 4) rfl rfl (sf_assign (v := .d (.val (.int .i64 x1))) rfl rfl ?_)
  refine XK.nil (nrm ?_)
  refine QW.seq ?_
  refine QW.region (Nat.zero_le _) (PW.regT (by kernel_rfl) ?_)
  refine XK.st (some 15) rfl rfl (sf_move (v := .d (.val (.int .i64 x1))) rfl rfl ?_)
  refine XK.st (some 16) rfl rfl (sf_ne (a := x1) (b := (0 : Int)) rfl rfl rfl ?_)
  refine XK.nil (nrm ?_)
  refine QW.cond (t := (!decide (x1 = (0 : Int)))) rfl (Nat.zero_le _) (fun hb3 => ?_) (fun hb3 => ?_)
  · replace h := bGT h hb3
    refine QW.seq ?_
    refine QW.region (Nat.zero_le _) (PW.regT (by kernel_rfl) ?_)
    refine XK.st (some 17) rfl rfl (sf_move (v := .d (.val (.int .i64 x1))) rfl rfl ?_)
    refine XK.st (some 2) rfl rfl (sf_assign (v := .d (.val (sV ([] : List UInt8)))) rfl rfl ?_)
    refine XK.st (some 3) rfl rfl (sf_assign (v := .d (.val (.int .i64 x1))) rfl rfl ?_)
    refine XK.nil (nrm ?_)
    refine QW.ret (Nat.zero_le _) (thR ?_)
    obtain rfl := sG h
    exact Ends.more (.inr rfl) rfl (ps := [.d (.val (sV ([] : List UInt8))), .d (.val (.int .i64 x1))]) (And.intro (ResIs.tmp rfl) (And.intro (ResIs.tmp rfl) trivial)) rfl rfl
  · replace h := bGF h hb3
    refine QW.skip (Nat.zero_le _) (nrm ?_)
    refine QW.seq ?_
    refine QW.region (Nat.zero_le _) (PW.regT (by kernel_rfl) ?_)
    obtain ⟨x6, hx5, h⟩ := bG h
    refine XK.fr (p := .agg [.d (.val (.bool true)), .d (.val (sV ([] : List UInt8))), .full (([] : List Item).map eItem)]) (H2 := _) (nx2 := 0) (some 18) rfl rfl (xcall_frame [] rfl rfl TT.enters_69 (sim_rlp_List0  _ hx5) rfl rfl (by decide) trivial (Nat.le_of_ble_eq_true rfl)) rfl rfl rfl ?_
    refine XK.st (some 5) rfl rfl (sf_alloc (l := [.d (.val (.bool false)), .d (.val (sV ([] : List UInt8))), .full (([] : (List Item)).map eItem)]) rfl TT.zeroA_80 rfl rfl ?_)
    refine XK.st none rfl rfl (sf_stV (l' := [.d (.val (.bool true)), .d (.val (sV ([] : List UInt8))), .full (([] : List Item).map eItem)]) rfl TT.tyA_80 rfl rfl rfl rfl rfl rfl (by simp) rfl ?_)
    refine XK.nil (nrm ?_)
    refine QW.seq ?_
    refine QW.seq ?_
    refine QW.region (Nat.zero_le _) (PW.regT (by kernel_rfl) ?_)
    refine XK.st (some 19) rfl rfl (sf_fldC rfl TT.fldA_91_1 (by decide) rfl ?_)
    refine XK.st (some 20) rfl rfl (sf_ldC (d := .slice ((w0.fLinks).map eLink)) rfl TT.tyA_89 rfl (ldc_Witness_1 _) ?_)
    refine XK.st (some 21) rfl rfl (sf_lenL (en := eLink) (l := w0.fLinks) rfl TT.under_89 rfl ?_)
    refine XK.st (some 22) rfl rfl (sf_move (v := .d (.val (.int .i64 (0)))) rfl rfl ?_)
    refine XK.nil (nrm ?_)
    refine QW.block ?_
    refine QW.loop (fun k σ => ∃ v22 : Int, ∃ v5_2 : (List Item), k ≤ k0 ∧ run (step_wire_Put w0) k (.L1 v22 v5_2) = some r ∧ σ = ⟨tab [(1, .d (.cptr (cWitness w0))), (5, .vptr 0 0), (20, .d (.slice ((w0.fLinks).map eLink))), (21, .d (.val (.int .i64 ((w0.fLinks).length : Int)))), (22, .d (.val (.int .i64 v22)))], tabH [.var [.d (.val (.bool true)), .d (.val (sV ([] : List UInt8))), .own 1 (v5_2.map eItem)], .spare 3 v5_2.length], 2, []⟩) k0 (Nat.zero_le _) ⟨⟨tab [(1, .d (.cptr (cWitness w0))), (5, .vptr 0 0), (20, .d (.slice ((w0.fLinks).map eLink))), (21, .d (.val (.int .i64 ((w0.fLinks).length : Int)))), (22, .d (.val (.int .i64 (0))))], tabH [.var [.d (.val (.bool true)), .d (.val (sV ([] : List UInt8))), .own 1 (([] : List Item).map eItem)], .spare 3 ([] : List Item).length], 2, []⟩, View.trans (View.bufV 0 2 3 rfl rfl (Nat.zero_le _)) (View.mk 2 [0, 1] _ _ _ rfl rfl (by decide) (And.intro (Imp.of_eq rfl) (And.intro (Imp.of_eq rfl) (And.intro (Imp.of_eq rfl) (And.intro (Imp.of_eq rfl) (And.intro (Imp.of_eq rfl) trivial))))) (And.intro rfl (And.intro rfl trivial)) rfl (Nat.zero_le _) rfl), 0, ([] : List Item), Nat.le_refl _, jG h, rfl⟩ ?_
    rintro k7s _ ⟨v22, v5_2, k7h, h, rfl⟩
    obtain ⟨k7, rfl, h9⟩ := run_succ h; replace h := h9; clear h9
    refine QW.seq ?_
    refine QW.region (Nat.zero_le _) (PW.regT (by kernel_rfl) ?_)
    refine XK.st (some 23) rfl rfl (sf_lss (a := v22) (b := ((w0.fLinks).length : Int)) rfl rfl rfl ?_)
    refine XK.nil (nrm ?_)
    refine QW.seq ?_
    refine QW.cond (t := (decide (v22 < ((w0.fLinks).length : Int)))) rfl (Nat.zero_le _) (fun hb8 => ?_) (fun hb8 => ?_)
    · replace h := bGT h hb8
      refine QW.skip (Nat.zero_le _) (nrm ?_)
      refine QW.seq ?_
      refine QW.block ?_
      refine QW.seq ?_
      refine QW.region (Nat.zero_le _) (PW.regT (by kernel_rfl) ?_)
      obtain ⟨c9, h⟩ := gG h
      refine XK.st (some 24) rfl rfl (sf_idxA (l := w0.fLinks) (i := v22) rfl TT.slcA_89 lay_Link rfl rfl c9 ?_)
      refine XK.st (some 25) rfl rfl (sf_ldC (d := .agg (cLink (idx (w0.fLinks) v22))) rfl TT.tyA_96 rfl (⟨by simp [cLink], rfl⟩) ?_)
      refine XK.st (some 7) rfl rfl (sf_alloc (l := [.d (.val (.int .i64 (0))), .full (([] : (List (List UInt8))).map eS)]) rfl TT.zeroA_96 rfl rfl ?_)
      refine XK.st none rfl rfl (sf_stV (l' := [.d (.val (.int .i64 ((idx (w0.fLinks) v22).fEpoch))), .d (.slice (((idx (w0.fLinks) v22).fProof).map eS))]) rfl TT.tyA_96 rfl rfl rfl rfl rfl rfl (by simp) rfl ?_)
      refine XK.nil (nrm ?_)
      refine QW.seq ?_
      refine QW.region (Nat.zero_le _) (PW.regT (by kernel_rfl) ?_)
      obtain ⟨x12, hx11, h⟩ := bG h
      refine XK.fr (p := .agg [.d (.val (.bool true)), .d (.val (sV ([] : List UInt8))), .full (([] : List Item).map eItem)]) (H2 := _) (nx2 := 3) (some 26) rfl rfl (xcall_frame [] rfl rfl TT.enters_69 (sim_rlp_List0  _ hx11) rfl rfl (by decide) trivial (Nat.le_of_ble_eq_true rfl)) rfl rfl rfl ?_
      refine XK.st (some 8) rfl rfl (sf_alloc (l := [.d (.val (.bool false)), .d (.val (sV ([] : List UInt8))), .full (([] : (List Item)).map eItem)]) rfl TT.zeroA_80 rfl rfl ?_)
      refine XK.st none rfl rfl (sf_stV (l' := [.d (.val (.bool true)), .d (.val (sV ([] : List UInt8))), .full (([] : List Item).map eItem)]) rfl TT.tyA_80 rfl rfl rfl rfl rfl rfl (by simp) rfl ?_)
      refine XK.nil (nrm ?_)
      refine QW.seq ?_
      refine QW.seq ?_
      refine QW.region (Nat.zero_le _) (PW.regT (by kernel_rfl) ?_)
      refine XK.st (some 27) rfl rfl (sf_fldV rfl TT.fldA_96_1 (by decide) rfl ?_)
      refine XK.st (some 28) rfl rfl (sf_ldV (v := .d (.slice (((idx (w0.fLinks) v22).fProof).map eS))) rfl TT.tyA_94 rfl rfl ⟨⟨by simp, by simp⟩, rfl⟩ ?_)
      refine XK.st (some 29) rfl rfl (sf_lenL (en := eS) (l := (idx (w0.fLinks) v22).fProof) rfl TT.under_94 rfl ?_)
      refine XK.st (some 30) rfl rfl (sf_move (v := .d (.val (.int .i64 (0)))) rfl rfl ?_)
      refine XK.nil (nrm ?_)
      refine QW.block ?_
      refine QW.loop (fun k σ => ∃ v22_5 : Int, ∃ v28_4 : (List (List UInt8)), ∃ v29_4 : Int, ∃ v30_3 : Int, ∃ v5_2_5 : (List Item), ∃ v7_0_4 : Int, ∃ v7_1_4 : (List (List UInt8)), ∃ v8_2_3 : (List Item), k ≤ k7 ∧ run (step_wire_Put w0) k (.L2 v22_5 v28_4 v29_4 v30_3 v5_2_5 v7_0_4 v7_1_4 v8_2_3) = some r ∧ σ = ⟨tab [(1, .d (.cptr (cWitness w0))), (5, .vptr 0 0), (7, .vptr 2 0), (8, .vptr 3 0), (20, .d (.slice ((w0.fLinks).map eLink))), (21, .d (.val (.int .i64 ((w0.fLinks).length : Int)))), (22, .d (.val (.int .i64 v22_5))), (28, .d (.slice (v28_4.map eS))), (29, .d (.val (.int .i64 v29_4))), (30, .d (.val (.int .i64 v30_3)))], tabH [.var [.d (.val (.bool true)), .d (.val (sV ([] : List UInt8))), .own 1 (v5_2_5.map eItem)], .spare 3 v5_2_5.length, .var [.d (.val (.int .i64 v7_0_4)), .d (.slice (v7_1_4.map eS))], .var [.d (.val (.bool true)), .d (.val (sV ([] : List UInt8))), .own 4 (v8_2_3.map eItem)], .spare 3 v8_2_3.length], 5, []⟩) k7 (Nat.zero_le _) ⟨⟨tab [(1, .d (.cptr (cWitness w0))), (5, .vptr 0 0), (7, .vptr 2 0), (8, .vptr 3 0), (20, .d (.slice ((w0.fLinks).map eLink))), (21, .d (.val (.int .i64 ((w0.fLinks).length : Int)))), (22, .d (.val (.int .i64 v22))), (28, .d (.slice (((idx (w0.fLinks) v22).fProof).map eS))), (29, .d (.val (.int .i64 (((idx (w0.fLinks) v22).fProof).length : Int)))), (30, .d (.val (.int .i64 (0))))], tabH [.var [.d (.val (.bool true)), .d (.val (sV ([] : List UInt8))), .own 1 (v5_2.map eItem)], .spare 3 v5_2.length, .var [.d (.val (.int .i64 ((idx (w0.fLinks) v22).fEpoch))), .d (.slice (((idx (w0.fLinks) v22).fProof).map eS))], .var [.d (.val (.bool true)), .d (.val (sV ([] : List UInt8))), .own 4 (([] : List Item).map eItem)], .spare 3 ([] : List Item).length], 5, []⟩, View.trans (View.bufV 3 2 3 rfl rfl (Nat.zero_le _)) (View.mk 5 [0, 1, 2, 3, 4] _ _ _ rfl rfl (by decide) (And.intro (Imp.of_eq rfl) (And.intro (Imp.of_eq rfl) (And.intro (Imp.of_eq rfl) (And.intro (Imp.of_eq rfl) (And.intro (Imp.of_eq rfl) (And.intro (Imp.of_eq rfl) (And.intro (Imp.of_eq rfl) (And.intro (Imp.of_eq rfl) (And.intro (Imp.of_eq rfl) (And.intro (Imp.of_eq rfl) trivial)))))))))) (And.intro rfl (And.intro rfl (And.intro rfl (And.intro rfl (And.intro rfl trivial))))) rfl (Nat.zero_le _) rfl), v22, (idx (w0.fLinks) v22).fProof, (((idx (w0.fLinks) v22).fProof).length : Int), 0, v5_2, (idx (w0.fLinks) v22).fEpoch, (idx (w0.fLinks) v22).fProof, ([] : List Item), Nat.le_refl _, jG h, rfl⟩ ?_
      rintro k13s _ ⟨v22_5, v28_4, v29_4, v30_3, v5_2_5, v7_0_4, v7_1_4, v8_2_3, k13h, h, rfl⟩
      obtain ⟨k13, rfl, h9⟩ := run_succ h; replace h := h9; clear h9
      refine QW.seq ?_
      refine QW.region (Nat.zero_le _) (PW.regT (by kernel_rfl) ?_)
      refine XK.st (some 31) rfl rfl (sf_lss (a := v30_3) (b := v29_4) rfl rfl rfl ?_)
      refine XK.nil (nrm ?_)
      refine QW.seq ?_
      refine QW.cond (t := (decide (v30_3 < v29_4))) rfl (Nat.zero_le _) (fun hb14 => ?_) (fun hb14 => ?_)
      · replace h := bGT h hb14
        refine QW.skip (Nat.zero_le _) (nrm ?_)
        refine QW.seq ?_
        refine QW.block ?_
        refine QW.seq ?_
        refine QW.region (Nat.zero_le _) (PW.regT (by kernel_rfl) ?_)
        obtain ⟨c15, h⟩ := gG h
        refine XK.st (some 32) rfl rfl (sf_idxA (l := v28_4) (i := v30_3) rfl TT.slcA_94 lay_S rfl rfl c15 ?_)
        refine XK.st (some 33) rfl rfl (sf_ldC (d := .val (sV (idx v28_4 v30_3))) rfl TT.tyA_9 rfl (LdC.one) ?_)
        refine XK.st (some 10) rfl rfl (sf_assign (v := .d (.val (sV (idx v28_4 v30_3)))) rfl rfl ?_)
        refine XK.nil (nrm ?_)
        refine QW.region (Nat.zero_le _) (PW.regK (id := 12) mixedX (M := _) rfl (by kernel_rfl) ?_)
        refine RK.st (some 34) rfl rfl (sf_fldV rfl TT.fldA_80_2 (by decide) rfl ?_)
        refine RK.st (some 35) rfl rfl (sf_ldV (v := .own 4 (v8_2_3.map eItem)) rfl TT.tyA_78 rfl rfl ⟨⟨by simp, by simp⟩, rfl⟩ ?_)
        refine RK.st (some 36) rfl rfl (sf_move (v := .d (.val (sV (idx v28_4 v30_3)))) rfl rfl ?_)
        obtain ⟨x16, hx17, h⟩ := bG h
        refine RK.st (some 37) rfl rfl (sf_call rfl rfl TT.enters_68 rfl (sim_rlp_Text (idx v28_4 v30_3) _ hx17) ?_)
        refine RK.st (some 38) rfl rfl (sf_row (en := eItem) (l := ([x16] : List Item)) rfl TT.rowA_78 lay_Item (by first | rfl | (simp only [List.map_cons, List.map_nil, eItem_eq]; rfl)) rfl (by decide) (by simp [solids, partsP, evP, ofVal, PV.solid, putS_at, tab, unS, unT, unC, asCond, Value.oneCell']) ?_)
        obtain ⟨c18, h⟩ := gG h
        refine RK.st (some 39) rfl rfl (sf_appO (en := eItem) (l := v8_2_3) (l2 := ([x16] : List Item)) rfl TT.rowA_78 TT.under_78 rfl lay_Item rfl rfl rfl c18 (by decide) ?_)
        refine RK.st (some 40) rfl rfl (sf_fldV rfl TT.fldA_80_2 (by decide) rfl ?_)
        refine RK.st none rfl rfl (sf_stV (l' := [.d (.val (.bool true)), .d (.val (sV ([] : List UInt8))), .own 5 ((v8_2_3 ++ ([x16] : List Item)).map eItem)]) rfl TT.tyA_78 rfl rfl rfl rfl rfl rfl (by simp) rfl ?_)
        refine RK.nil ⟨RecsOK.comp (by rfl), (blN (nrm ?_))⟩
        refine QW.region (Nat.zero_le _) (PW.regT (by kernel_rfl) ?_)
        obtain ⟨c19, h⟩ := gG h
        refine XK.st (some 41) rfl rfl (sf_add (a := v30_3) (b := (1 : Int)) rfl rfl rfl c19 ?_)
        refine XK.st (some 30) rfl rfl (sf_move (v := .d (.val (.int .i64 (v30_3 + (1 : Int))))) rfl rfl ?_)
        refine XK.nil (nrm ?_)
        exact ⟨k13, by omega, ⟨tab [(1, .d (.cptr (cWitness w0))), (5, .vptr 0 0), (7, .vptr 2 0), (8, .vptr 3 0), (20, .d (.slice ((w0.fLinks).map eLink))), (21, .d (.val (.int .i64 ((w0.fLinks).length : Int)))), (22, .d (.val (.int .i64 v22_5))), (28, .d (.slice (v28_4.map eS))), (29, .d (.val (.int .i64 v29_4))), (30, .d (.val (.int .i64 (v30_3 + (1 : Int)))))], tabH [.var [.d (.val (.bool true)), .d (.val (sV ([] : List UInt8))), .own 1 (v5_2_5.map eItem)], .spare 3 v5_2_5.length, .var [.d (.val (.int .i64 v7_0_4)), .d (.slice (v7_1_4.map eS))], .var [.d (.val (.bool true)), .d (.val (sV ([] : List UInt8))), .own 4 ((v8_2_3 ++ ([x16] : List Item)).map eItem)], .spare 3 (v8_2_3 ++ ([x16] : List Item)).length], 5, []⟩, View.mk 5 [0, 1, 2, 3, 5] _ _ _ rfl rfl (by decide) (And.intro (Imp.of_eq rfl) (And.intro (Imp.of_eq rfl) (And.intro (Imp.of_eq rfl) (And.intro (Imp.of_eq rfl) (And.intro (Imp.of_eq rfl) (And.intro (Imp.of_eq rfl) (And.intro (Imp.of_eq rfl) (And.intro (Imp.of_eq rfl) (And.intro (Imp.of_eq rfl) (And.intro (Imp.of_eq rfl) trivial)))))))))) (And.intro rfl (And.intro rfl (And.intro rfl (And.intro rfl (And.intro rfl trivial))))) rfl (Nat.zero_le _) rfl, v22_5, v28_4, v29_4, (v30_3 + (1 : Int)), v5_2_5, v7_0_4, v7_1_4, (v8_2_3 ++ ([x16] : List Item)), by omega, jG h, rfl⟩
      · replace h := bGF h hb14
        refine QW.exit (Nat.zero_le _) (thX (thX (exE (nrm ?_))))
        refine QW.region (Nat.zero_le _) (PW.regK (id := 14) mixedX (M := _) rfl (by kernel_rfl) ?_)
        refine RK.st (some 42) rfl rfl (sf_fldV rfl TT.fldA_80_2 (by decide) rfl ?_)
        refine RK.st (some 43) rfl rfl (sf_ldV (v := .own 1 (v5_2_5.map eItem)) rfl TT.tyA_78 rfl rfl ⟨⟨by simp, by simp⟩, rfl⟩ ?_)
        refine RK.st (some 44) rfl rfl (sf_fldV rfl TT.fldA_96_0 (by decide) rfl ?_)
        refine RK.st (some 45) rfl rfl (sf_ldV (v := .d (.val (.int .i64 v7_0_4))) rfl TT.tyA_3 rfl rfl ⟨⟨by simp, by simp⟩, rfl⟩ ?_)
        obtain ⟨x20, hx21, h⟩ := bG h
        refine RK.st (some 46) rfl rfl (sf_call rfl rfl TT.enters_108 rfl (sim_wire_number v7_0_4 _ hx21) ?_)
        obtain ⟨x22, hx23, h⟩ := bG h
        refine RK.st (some 47) rfl rfl (sf_call rfl rfl TT.enters_68 rfl (sim_rlp_Text x20 _ hx23) ?_)
        refine RK.st (some 48) rfl rfl (sf_ldV (v := .agg [.d (.val (.bool true)), .d (.val (sV ([] : List UInt8))), .own 4 (v8_2_3.map eItem)]) rfl TT.tyA_80 rfl rfl ⟨⟨by simp, by simp⟩, rfl⟩ ?_)
        refine RK.st (some 49) rfl rfl (sf_row (en := eItem) (l := ([x22, (⟨true, ([] : List UInt8), v8_2_3⟩ : Item)] : List Item)) rfl TT.rowA_78 lay_Item (by first | rfl | (simp only [List.map_cons, List.map_nil, eItem_eq]; rfl)) rfl (by decide) (by simp [solids, partsP, evP, ofVal, PV.solid, putS_at, tab, unS, unT, unC, asCond, Value.oneCell']) ?_)
        obtain ⟨x24, hx25, h⟩ := bG h
        refine RK.st (some 50) rfl rfl (sf_call rfl rfl TT.enters_69 rfl (sim_rlp_List ([x22, (⟨true, ([] : List UInt8), v8_2_3⟩ : Item)] : List Item) _ hx25) ?_)
        refine RK.st (some 51) rfl rfl (sf_row (en := eItem) (l := ([x24] : List Item)) rfl TT.rowA_78 lay_Item (by first | rfl | (simp only [List.map_cons, List.map_nil, eItem_eq]; rfl)) rfl (by decide) (by simp [solids, partsP, evP, ofVal, PV.solid, putS_at, tab, unS, unT, unC, asCond, Value.oneCell']) ?_)
        obtain ⟨c26, h⟩ := gG h
        refine RK.st (some 52) rfl rfl (sf_appO (en := eItem) (l := v5_2_5) (l2 := ([x24] : List Item)) rfl TT.rowA_78 TT.under_78 rfl lay_Item rfl rfl rfl c26 (by decide) ?_)
        refine RK.st (some 53) rfl rfl (sf_fldV rfl TT.fldA_80_2 (by decide) rfl ?_)
        refine RK.st none rfl rfl (sf_stV (l' := [.d (.val (.bool true)), .d (.val (sV ([] : List UInt8))), .own 5 ((v5_2_5 ++ ([x24] : List Item)).map eItem)]) rfl TT.tyA_78 rfl rfl rfl rfl rfl rfl (by simp) rfl ?_)
        refine RK.nil ⟨RecsOK.comp (by rfl), (blN (nrm ?_))⟩
        refine QW.region (Nat.zero_le _) (PW.regT (by kernel_rfl) ?_)
        obtain ⟨c27, h⟩ := gG h
        refine XK.st (some 54) rfl rfl (sf_add (a := v22_5) (b := (1 : Int)) rfl rfl rfl c27 ?_)
        refine XK.st (some 22) rfl rfl (sf_move (v := .d (.val (.int .i64 (v22_5 + (1 : Int))))) rfl rfl ?_)
        refine XK.nil (nrm ?_)
        exact ⟨k13, by omega, ⟨tab [(1, .d (.cptr (cWitness w0))), (5, .vptr 0 0), (20, .d (.slice ((w0.fLinks).map eLink))), (21, .d (.val (.int .i64 ((w0.fLinks).length : Int)))), (22, .d (.val (.int .i64 (v22_5 + (1 : Int)))))], tabH [.var [.d (.val (.bool true)), .d (.val (sV ([] : List UInt8))), .own 1 ((v5_2_5 ++ ([x24] : List Item)).map eItem)], .spare 3 (v5_2_5 ++ ([x24] : List Item)).length], 2, []⟩, View.mk 2 [0, 5] _ _ _ rfl rfl (by decide) (And.intro (Imp.of_eq rfl) (And.intro (Imp.of_eq rfl) (And.intro (Imp.of_eq rfl) (And.intro (Imp.of_eq rfl) (And.intro (Imp.of_eq rfl) trivial))))) (And.intro rfl (And.intro rfl trivial)) rfl (Nat.zero_le _) rfl, (v22_5 + (1 : Int)), (v5_2_5 ++ ([x24] : List Item)), by omega, jG h, rfl⟩
    · replace h := bGF h hb8
      refine QW.exit (Nat.zero_le _) (thX (thX (exE (nrm ?_))))
      refine QW.seq ?_
      refine QW.region (Nat.zero_le _) (PW.regQ (id := 16) mixedX (M := _) rfl (by kernel_rfl) ?_)
      refine RQ.st (some 56) rfl rfl (sf_fldC rfl TT.fldA_91_0 (by decide) rfl ⟨⟨rfl, rfl⟩, ?_⟩)
      refine RQ.st (some 57) rfl rfl (sf_subA0 (en := byteD) (a := w0.fKey) rfl TT.under_29 TT.arrA_29 (pre_Witness_0 _) (flat_drop (flat_Witness _)) rfl ⟨⟨rfl, rfl⟩, ?_⟩)
      refine RQ.st (some 58) rfl rfl (sf_b2s (l := (w0.fKey).1) rfl TT.under_37 TT.under_5 TT.under_9 rfl ⟨⟨rfl, rfl⟩, ?_⟩)
      obtain ⟨x28, hx29, h⟩ := bG h
      refine RQ.st (some 59) rfl rfl (sf_call rfl rfl TT.enters_68 rfl (sim_rlp_Text ((w0.fKey).1) _ hx29) ⟨⟨rfl, rfl⟩, ?_⟩)
      refine RQ.st (some 60) rfl rfl (sf_ldV (v := .agg [.d (.val (.bool true)), .d (.val (sV ([] : List UInt8))), .own 1 (v5_2.map eItem)]) rfl TT.tyA_80 rfl rfl ⟨⟨by simp, by simp⟩, rfl⟩ ⟨⟨rfl, rfl⟩, ?_⟩)
      refine RQ.st (some 61) rfl rfl (sf_row (en := eItem) (l := ([x28, (⟨true, ([] : List UInt8), v5_2⟩ : Item)] : List Item)) rfl TT.rowA_78 lay_Item (by first | rfl | (simp only [List.map_cons, List.map_nil, eItem_eq]; rfl)) rfl (by decide) (by simp [solids, partsP, evP, ofVal, PV.solid, putS_at, tab, unS, unT, unC, asCond, Value.oneCell']) ⟨⟨rfl, rfl⟩, ?_⟩)
      obtain ⟨x30, hx31, h⟩ := bG h
      refine RQ.st (some 62) rfl rfl (sf_call rfl rfl TT.enters_69 rfl (sim_rlp_List ([x28, (⟨true, ([] : List UInt8), v5_2⟩ : Item)] : List Item) _ hx31) ⟨⟨rfl, rfl⟩, ?_⟩)
      obtain ⟨x32, hx33, h⟩ := bG h
      refine RQ.st (some 63) rfl rfl (sf_call rfl rfl TT.enters_102 rfl (sim_rlp_Put x30 _ hx33) ⟨⟨rfl, rfl⟩, ?_⟩)
      refine RQ.st (some 55) rfl rfl (sf_move (v := .d (.tuple [.val (sV (x32.1)), .val (.int .i64 (x32.2))])) rfl rfl ⟨⟨rfl, rfl⟩, ?_⟩)
      refine RQ.st (some 64) rfl rfl (sf_extract rfl rfl rfl ⟨⟨rfl, rfl⟩, ?_⟩)
      refine RQ.st (some 65) rfl rfl (sf_extract rfl rfl rfl ⟨⟨rfl, rfl⟩, ?_⟩)
      refine RQ.st (some 11) rfl rfl (sf_assign (v := .d (.val (sV (x32.1)))) rfl rfl ⟨⟨rfl, rfl⟩, ?_⟩)
      refine RQ.st (some 12) rfl rfl (sf_assign (v := .d (.val (.int .i64 (x32.2)))) rfl rfl ⟨⟨rfl, rfl⟩, ?_⟩)
      refine RQ.nil (nrm ?_)
      refine QW.seq ?_
      refine QW.seq ?_
      refine QW.region (Nat.zero_le _) (PW.regT (by kernel_rfl) ?_)
      refine XK.st (some 66) rfl rfl (sf_move (v := .d (.val (.int .i64 (x32.2)))) rfl rfl ?_)
      refine XK.st (some 67) rfl rfl (sf_ne (a := (x32.2)) (b := (0 : Int)) rfl rfl rfl ?_)
      refine XK.st (some 68) rfl rfl (sf_move (v := .d (.val (.bool (!decide ((x32.2) = (0 : Int)))))) rfl rfl ?_)
      refine XK.gd (v := .d (.val (sV (x32.1)))) (T := []) (some 69) rfl rfl (by repeat (first | exact trivial | refine And.intro (fun hg => by first | rfl | exact hg | exact (Bool.and_eq_true_iff.mp hg).1 | exact (Bool.and_eq_true_iff.mp (Bool.and_eq_true_iff.mp hg).1).1) ?_)) (fun hg => sf_move (v := .d (.val (sV (x32.1)))) rfl rfl ⟨⟨rfl, rfl, rfl⟩, rfl, Imp.refl⟩) (fun _ _ hi => nomatch hi) ?_
      refine XK.gd (v := .d (.val (.int .i64 ((x32.1).length : Int)))) (T := []) (some 70) rfl rfl (by repeat (first | exact trivial | refine And.intro (fun hg => by first | rfl | exact hg | exact (Bool.and_eq_true_iff.mp hg).1 | exact (Bool.and_eq_true_iff.mp (Bool.and_eq_true_iff.mp hg).1).1) ?_)) (fun hg => sf_lenS (l := x32.1) rfl TT.under_9 rfl ⟨⟨rfl, rfl, rfl⟩, rfl, Imp.refl⟩) (fun _ _ hi => nomatch hi) ?_
      refine XK.gd (v := .d (.val (.bool (decide ((4194304 : Int) < ((x32.1).length : Int)))))) (T := []) (some 71) rfl rfl (by repeat (first | exact trivial | refine And.intro (fun hg => by first | rfl | exact hg | exact (Bool.and_eq_true_iff.mp hg).1 | exact (Bool.and_eq_true_iff.mp (Bool.and_eq_true_iff.mp hg).1).1) ?_)) (fun hg => sf_gtr (a := ((x32.1).length : Int)) (b := (4194304 : Int)) rfl rfl rfl ⟨⟨rfl, rfl, rfl⟩, rfl, Imp.refl⟩) (fun _ _ hi => nomatch hi) ?_
      refine XK.st (some 72) rfl rfl (sf_pickO rfl rfl rfl rfl (fun _ => rfl) (fun hb => by rw [hb]; rfl) ?_)
      refine XK.nil (nrm ?_)
      refine QW.cond (t := ((!decide ((x32.2) = (0 : Int))) || (decide ((4194304 : Int) < ((x32.1).length : Int))))) rfl (Nat.zero_le _) (fun hb34 => ?_) (fun hb34 => ?_)
      · replace h := bGT h hb34
        refine QW.seq ?_
        refine QW.region (Nat.zero_le _) (PW.regT (by kernel_rfl) ?_)
        refine XK.st (some 2) rfl rfl (sf_assign (v := .d (.val (sV ([] : List UInt8)))) rfl rfl ?_)
        refine XK.st (some 3) rfl rfl (sf_assign (v := .d (.val (.int .i64 (4)))) rfl rfl ?_)
        refine XK.nil (nrm ?_)
        refine QW.ret (Nat.zero_le _) (thR ?_)
        obtain rfl := sG h
        exact Ends.more (.inr rfl) rfl (ps := [.d (.val (sV ([] : List UInt8))), .d (.val (.int .i64 (4)))]) (And.intro (ResIs.tmp rfl) (And.intro (ResIs.tmp rfl) trivial)) rfl rfl
      · replace h := bGF h hb34
        refine QW.skip (Nat.zero_le _) (nrm ?_)
        refine QW.seq ?_
        refine QW.region (Nat.zero_le _) (PW.regT (by kernel_rfl) ?_)
        refine XK.st (some 73) rfl rfl (sf_move (v := .d (.val (sV (x32.1)))) rfl rfl ?_)
        refine XK.st (some 2) rfl rfl (sf_assign (v := .d (.val (sV (x32.1)))) rfl rfl ?_)
        refine XK.st (some 3) rfl rfl (sf_assign (v := .d (.val (.int .i64 (0)))) rfl rfl ?_)
        refine XK.nil (nrm ?_)
        refine QW.ret (Nat.zero_le _) ?_
        obtain rfl := sG h
        exact Ends.more (.inr rfl) rfl (ps := [.d (.val (sV (x32.1))), .d (.val (.int .i64 (0)))]) (And.intro (ResIs.tmp rfl) (And.intro (ResIs.tmp rfl) trivial)) rfl rfl

inductive C_wire_read where
  | S
  | L1 (v19 : Int) (v3_0 : Int)
  | L2 (v42 : Int) (v3_0_3 : Int) (v3_1 : (List (List UInt8)))

noncomputable def step_wire_read (x0 : Item) : C_wire_read → Option (C_wire_read ⊕ Link)
  | .S =>
    (bif (!decide (((x0.fL).length : Int) = (2 : Int))) then
    some (.inr (⟨0, ([] : (List (List UInt8)))⟩ : Link))
    else
    gO (0 ≤ (0 : Int) ∧ (0 : Int) < ((x0.fL).length : Int)) (
    some (.inl (.L1 (0) (0)))))
  | .L1 v19 v3_0 =>
    (bif (decide (v19 < (minI (((idx (x0.fL) (0 : Int)).fS).length : Int) (4 : Int)))) then
    gO (0 ≤ (8 : Int) ∧ inI (shlI v3_0 (8 : Int))) (
    gO (0 ≤ (0 : Int) ∧ (0 : Int) < ((x0.fL).length : Int)) (
    gO (0 ≤ v19 ∧ v19 < (((idx (x0.fL) (0 : Int)).fS).length : Int)) (
    gO (inI (v19 + (1 : Int))) (
    some (.inl (.L1 (v19 + (1 : Int)) (orI (shlI v3_0 (8 : Int)) ((idx ((idx (x0.fL) (0 : Int)).fS) v19).toNat : Int))))))))
    else
    gO (0 ≤ (1 : Int) ∧ (1 : Int) < ((x0.fL).length : Int)) (
    some (.inl (.L2 (0) v3_0 ([] : (List (List UInt8)))))))
  | .L2 v42 v3_0_3 v3_1 =>
    (bif (decide (v42 < (((idx (x0.fL) (1 : Int)).fL).length : Int))) then
    gO (0 ≤ v42 ∧ v42 < (((idx (x0.fL) (1 : Int)).fL).length : Int)) (
    gO ((v3_1.length + ([(idx ((idx (x0.fL) (1 : Int)).fL) v42).fS] : List (List UInt8)).length) * 16 ≤ 140737488355328) (
    gO (inI (v42 + (1 : Int))) (
    some (.inl (.L2 (v42 + (1 : Int)) v3_0_3 (v3_1 ++ ([(idx ((idx (x0.fL) (1 : Int)).fL) v42).fS] : List (List UInt8))))))))
    else
    some (.inr (⟨v3_0_3, v3_1⟩ : Link)))

noncomputable def g_wire_read (x0 : Item) : Option Link := theC (step_wire_read x0) .S

set_option maxRecDepth 20000 in
set_option maxHeartbeats 4000000 in
theorem sim_wire_read (x0 : Item) (r : Link) (h : g_wire_read x0 = some r) : Fun Try.prog 114 [.agg (cItem x0)] (.agg (cLink r)) := by
  refine Fun.of_bodyQ Try.func114 rfl (by simp [Try.ntmps114]) ?_
  rw [Try.ntmps114, TT.res_114]
  refine QW.view (s' := ⟨tab [(0, .d (.agg (cItem x0)))], tabH [], 0, []⟩) (View.init (by rfl)) (Nat.zero_le _) ?_
  replace h := theC_get h
  obtain ⟨_, h⟩ := h
  obtain ⟨k0, rfl, h9⟩ := run_succ h; replace h := h9; clear h9
  refine QW.seq ?_
  refine QW.region (Nat.zero_le _) (PW.regT (by kernel_rfl) ?_)
  refine XK.fz (some 1) rfl rfl (sf_boxF (ds := cItem x0) rfl rfl rfl rfl rfl ?_)
  refine XK.st (some 2) rfl rfl (sf_alloc (l := [.d (.val (.int .i64 (0))), .full (([] : (List (List UInt8))).map eS)]) rfl TT.zeroA_96 rfl rfl ?_)
  refine XK.nil (nrm ?_)
  refine QW.seq ?_
  refine QW.region (Nat.zero_le _) (PW.regT (by kernel_rfl) ?_)
  refine XK.st (some 3) rfl rfl (sf_alloc (l := [.d (.val (.int .i64 (0))), .full (([] : (List (List UInt8))).map eS)]) rfl TT.zeroA_96 rfl rfl ?_)
  refine XK.nil (nrm ?_)
  refine QW.seq ?_
  refine QW.seq ?_
  refine QW.region (Nat.zero_le _) (PW.regT (by kernel_rfl) ?_)
  refine XK.st (some 7) rfl rfl (sf_fldC rfl TT.fldA_80_2 (by decide) rfl ?_)
  refine XK.st (some 8) rfl rfl (sf_ldC (d := .slice ((x0.fL).map eItem)) rfl TT.tyA_78 rfl (LdC.one) ?_)
  refine XK.st (some 9) rfl rfl (sf_lenL (en := eItem) (l := x0.fL) rfl TT.under_78 rfl ?_)
  refine XK.st (some 10) rfl rfl (sf_ne (a := ((x0.fL).length : Int)) (b := (2 : Int)) rfl rfl rfl ?_)
  refine XK.nil (nrm ?_)
  refine QW.cond (t := (!decide (((x0.fL).length : Int) = (2 : Int)))) rfl (Nat.zero_le _) (fun hb1 => ?_) (fun hb1 => ?_)
  · replace h := bGT h hb1
    refine QW.seq ?_
    refine QW.region (Nat.zero_le _) (PW.regT (by kernel_rfl) ?_)
    refine XK.as (some 11) rfl rfl (sf_ldV (v := .agg [.d (.val (.int .i64 (0))), .full (([] : (List (List UInt8))).map eS)]) rfl TT.tyA_96 rfl rfl ⟨⟨by simp, by simp⟩, rfl⟩ ⟨.d (.agg (cLink (⟨0, ([] : (List (List UInt8)))⟩ : Link))), (Imp.toD rfl), ?_⟩)
    refine XK.st none rfl rfl (sf_stV (l' := [.d (.val (.int .i64 (0))), .d (.slice (([] : (List (List UInt8))).map eS))]) rfl TT.tyA_96 rfl rfl rfl rfl rfl rfl (by simp) rfl ?_)
    refine XK.nil (nrm ?_)
    refine QW.ret (Nat.zero_le _) (thR ?_)
    obtain rfl := sG h
    exact Ends.one (.inr rfl) rfl (ResIs.cell rfl rfl TT.tyA_96 ⟨⟨by simp, by simp⟩, rfl⟩) rfl rfl
  · replace h := bGF h hb1
    refine QW.skip (Nat.zero_le _) (nrm ?_)
    refine QW.seq ?_
    refine QW.seq ?_
    refine QW.region (Nat.zero_le _) (PW.regT (by kernel_rfl) ?_)
    refine XK.st (some 12) rfl rfl (sf_fldC rfl TT.fldA_80_2 (by decide) rfl ?_)
    refine XK.st (some 13) rfl rfl (sf_ldC (d := .slice ((x0.fL).map eItem)) rfl TT.tyA_78 rfl (LdC.one) ?_)
    obtain ⟨c2, h⟩ := gG h
    refine XK.st (some 14) rfl rfl (sf_idxA (l := x0.fL) (i := (0 : Int)) rfl TT.slcA_78 lay_Item rfl rfl c2 ?_)
    refine XK.st (some 15) rfl rfl (sf_fldC rfl TT.fldA_80_1 (by decide) rfl ?_)
    refine XK.st (some 16) rfl rfl (sf_ldC (d := .val (sV ((idx (x0.fL) (0 : Int)).fS))) rfl TT.tyA_9 rfl (LdC.one) ?_)
    refine XK.st (some 17) rfl rfl (sf_lenS (l := (idx (x0.fL) (0 : Int)).fS) rfl TT.under_9 rfl ?_)
    refine XK.st (some 18) rfl rfl (sf_min (a := (((idx (x0.fL) (0 : Int)).fS).length : Int)) (b := (4 : Int)) rfl rfl rfl ?_)
    refine XK.st (some 19) rfl rfl (sf_move (v := .d (.val (.int .i64 (0)))) rfl rfl ?_)
    refine XK.nil (nrm ?_)
    refine QW.block ?_
    refine QW.loop (fun k σ => ∃ v19 : Int, ∃ v3_0 : Int, k ≤ k0 ∧ run (step_wire_read x0) k (.L1 v19 v3_0) = some r ∧ σ = ⟨tab [(1, .d (.cptr (cItem x0))), (2, .vptr 0 0), (3, .vptr 1 0), (18, .d (.val (.int .i64 (minI (((idx (x0.fL) (0 : Int)).fS).length : Int) (4 : Int))))), (19, .d (.val (.int .i64 v19)))], tabH [.var [.d (.val (.int .i64 (0))), .full (([] : (List (List UInt8))).map eS)], .var [.d (.val (.int .i64 v3_0)), .full (([] : (List (List UInt8))).map eS)]], 2, []⟩) k0 (Nat.zero_le _) ⟨⟨tab [(1, .d (.cptr (cItem x0))), (2, .vptr 0 0), (3, .vptr 1 0), (18, .d (.val (.int .i64 (minI (((idx (x0.fL) (0 : Int)).fS).length : Int) (4 : Int))))), (19, .d (.val (.int .i64 (0))))], tabH [.var [.d (.val (.int .i64 (0))), .full (([] : (List (List UInt8))).map eS)], .var [.d (.val (.int .i64 (0))), .full (([] : (List (List UInt8))).map eS)]], 2, []⟩, View.mk 2 [0, 1] _ _ _ rfl rfl (by decide) (And.intro (Imp.of_eq rfl) (And.intro (Imp.of_eq rfl) (And.intro (Imp.of_eq rfl) (And.intro (Imp.of_eq rfl) (And.intro (Imp.of_eq rfl) trivial))))) (And.intro rfl (And.intro rfl trivial)) rfl (Nat.zero_le _) rfl, 0, 0, Nat.le_refl _, jG h, rfl⟩ ?_
    rintro k3s _ ⟨v19, v3_0, k3h, h, rfl⟩
    obtain ⟨k3, rfl, h9⟩ := run_succ h; replace h := h9; clear h9
    refine QW.seq ?_
    refine QW.region (Nat.zero_le _) (PW.regT (by kernel_rfl) ?_)
    refine XK.st (some 20) rfl rfl (sf_lss (a := v19) (b := (minI (((idx (x0.fL) (0 : Int)).fS).length : Int) (4 : Int))) rfl rfl rfl ?_)
    refine XK.nil (nrm ?_)
    refine QW.seq ?_
    refine QW.cond (t := (decide (v19 < (minI (((idx (x0.fL) (0 : Int)).fS).length : Int) (4 : Int))))) rfl (Nat.zero_le _) (fun hb4 => ?_) (fun hb4 => ?_)
    · replace h := bGT h hb4
      refine QW.skip (Nat.zero_le _) (nrm ?_)
      refine QW.seq ?_
      refine QW.block ?_
      refine QW.seq ?_
      refine QW.region (Nat.zero_le _) (PW.regT (by kernel_rfl) ?_)
      refine XK.st (some 21) rfl rfl (sf_move (v := .d (.val (.int .i64 v19))) rfl rfl ?_)
      refine XK.st (some 4) rfl rfl (sf_assign (v := .d (.val (.int .i64 v19))) rfl rfl ?_)
      refine XK.nil (nrm ?_)
      refine QW.region (Nat.zero_le _) (PW.regK (id := 7) mixedX (M := _) rfl (by kernel_rfl) ?_)
      refine RK.st (some 22) rfl rfl (sf_fldV rfl TT.fldA_96_0 (by decide) rfl ?_)
      refine RK.st (some 23) rfl rfl (sf_ldV (v := .d (.val (.int .i64 v3_0))) rfl TT.tyA_3 rfl rfl ⟨⟨by simp, by simp⟩, rfl⟩ ?_)
      obtain ⟨c5, h⟩ := gG h
      refine RK.st (some 24) rfl rfl (sf_shl (a := v3_0) (b := (8 : Int)) rfl rfl rfl c5 ?_)
      refine RK.st (some 25) rfl rfl (sf_fldC rfl TT.fldA_80_2 (by decide) rfl ?_)
      refine RK.st (some 26) rfl rfl (sf_ldC (d := .slice ((x0.fL).map eItem)) rfl TT.tyA_78 rfl (LdC.one) ?_)
      obtain ⟨c6, h⟩ := gG h
      refine RK.st (some 27) rfl rfl (sf_idxA (l := x0.fL) (i := (0 : Int)) rfl TT.slcA_78 lay_Item rfl rfl c6 ?_)
      refine RK.st (some 28) rfl rfl (sf_fldC rfl TT.fldA_80_1 (by decide) rfl ?_)
      refine RK.st (some 29) rfl rfl (sf_ldC (d := .val (sV ((idx (x0.fL) (0 : Int)).fS))) rfl TT.tyA_9 rfl (LdC.one) ?_)
      refine RK.st (some 30) rfl rfl (sf_move (v := .d (.val (.int .i64 v19))) rfl rfl ?_)
      obtain ⟨c7, h⟩ := gG h
      refine RK.st (some 31) rfl rfl (sf_idxS (l := (idx (x0.fL) (0 : Int)).fS) (i := v19) rfl TT.under_9 TT.arrA_9 rfl rfl c7 ?_)
      refine RK.st (some 32) rfl rfl (sf_toI (n := ((idx ((idx (x0.fL) (0 : Int)).fS) v19).toNat : Int)) rfl TT.under_5 TT.under_3 rfl (inI_u8 _) ?_)
      refine RK.st (some 33) rfl rfl (sf_or (a := (shlI v3_0 (8 : Int))) (b := ((idx ((idx (x0.fL) (0 : Int)).fS) v19).toNat : Int)) rfl rfl rfl ?_)
      refine RK.st (some 34) rfl rfl (sf_fldV rfl TT.fldA_96_0 (by decide) rfl ?_)
      refine RK.st none rfl rfl (sf_stV (l' := [.d (.val (.int .i64 (orI (shlI v3_0 (8 : Int)) ((idx ((idx (x0.fL) (0 : Int)).fS) v19).toNat : Int)))), .full (([] : (List (List UInt8))).map eS)]) rfl TT.tyA_3 rfl rfl rfl rfl rfl rfl (by simp) rfl ?_)
      refine RK.nil ⟨RecsOK.comp (by rfl), (blN (nrm ?_))⟩
      refine QW.view (s' := ⟨tab [(1, .d (.cptr (cItem x0))), (2, .vptr 0 0), (3, .vptr 1 0), (18, .d (.val (.int .i64 (minI (((idx (x0.fL) (0 : Int)).fS).length : Int) (4 : Int))))), (19, .d (.val (.int .i64 v19)))], tabH [.var [.d (.val (.int .i64 (0))), .full (([] : (List (List UInt8))).map eS)], .var [.d (.val (.int .i64 (orI (shlI v3_0 (8 : Int)) ((idx ((idx (x0.fL) (0 : Int)).fS) v19).toNat : Int)))), .full (([] : (List (List UInt8))).map eS)]], 2, []⟩) (View.mk 2 [0, 1] _ _ _ rfl rfl (by decide) (And.intro (Imp.of_eq rfl) (And.intro (Imp.of_eq rfl) (And.intro (Imp.of_eq rfl) (And.intro (Imp.of_eq rfl) (And.intro (Imp.of_eq rfl) trivial))))) (And.intro rfl (And.intro rfl trivial)) rfl (Nat.zero_le _) rfl) (Nat.zero_le _) ?_
      refine QW.region (Nat.zero_le _) (PW.regT (by kernel_rfl) ?_)
      obtain ⟨c8, h⟩ := gG h
      refine XK.st (some 35) rfl rfl (sf_add (a := v19) (b := (1 : Int)) rfl rfl rfl c8 ?_)
      refine XK.st (some 19) rfl rfl (sf_move (v := .d (.val (.int .i64 (v19 + (1 : Int))))) rfl rfl ?_)
      refine XK.nil (nrm ?_)
      exact ⟨k3, by omega, ⟨tab [(1, .d (.cptr (cItem x0))), (2, .vptr 0 0), (3, .vptr 1 0), (18, .d (.val (.int .i64 (minI (((idx (x0.fL) (0 : Int)).fS).length : Int) (4 : Int))))), (19, .d (.val (.int .i64 (v19 + (1 : Int)))))], tabH [.var [.d (.val (.int .i64 (0))), .full (([] : (List (List UInt8))).map eS)], .var [.d (.val (.int .i64 (orI (shlI v3_0 (8 : Int)) ((idx ((idx (x0.fL) (0 : Int)).fS) v19).toNat : Int)))), .full (([] : (List (List UInt8))).map eS)]], 2, []⟩, View.mk 2 [0, 1] _ _ _ rfl rfl (by decide) (And.intro (Imp.of_eq rfl) (And.intro (Imp.of_eq rfl) (And.intro (Imp.of_eq rfl) (And.intro (Imp.of_eq rfl) (And.intro (Imp.of_eq rfl) trivial))))) (And.intro rfl (And.intro rfl trivial)) rfl (Nat.zero_le _) rfl, (v19 + (1 : Int)), (orI (shlI v3_0 (8 : Int)) ((idx ((idx (x0.fL) (0 : Int)).fS) v19).toNat : Int)), by omega, jG h, rfl⟩
    · replace h := bGF h hb4
      refine QW.exit (Nat.zero_le _) (thX (thX (exE (nrm ?_))))
      refine QW.seq ?_
      refine QW.seq ?_
      refine QW.region (Nat.zero_le _) (PW.regT (by kernel_rfl) ?_)
      refine XK.st (some 36) rfl rfl (sf_fldC rfl TT.fldA_80_2 (by decide) rfl ?_)
      refine XK.st (some 37) rfl rfl (sf_ldC (d := .slice ((x0.fL).map eItem)) rfl TT.tyA_78 rfl (LdC.one) ?_)
      obtain ⟨c9, h⟩ := gG h
      refine XK.st (some 38) rfl rfl (sf_idxA (l := x0.fL) (i := (1 : Int)) rfl TT.slcA_78 lay_Item rfl rfl c9 ?_)
      refine XK.st (some 39) rfl rfl (sf_fldC rfl TT.fldA_80_2 (by decide) rfl ?_)
      refine XK.st (some 40) rfl rfl (sf_ldC (d := .slice (((idx (x0.fL) (1 : Int)).fL).map eItem)) rfl TT.tyA_78 rfl (LdC.one) ?_)
      refine XK.st (some 41) rfl rfl (sf_lenL (en := eItem) (l := (idx (x0.fL) (1 : Int)).fL) rfl TT.under_78 rfl ?_)
      refine XK.st (some 42) rfl rfl (sf_move (v := .d (.val (.int .i64 (0)))) rfl rfl ?_)
      refine XK.nil (nrm ?_)
      refine QW.block ?_
      refine QW.loop (fun k σ => ∃ v42 : Int, ∃ v3_0_3 : Int, ∃ v3_1 : (List (List UInt8)), k ≤ k3 ∧ run (step_wire_read x0) k (.L2 v42 v3_0_3 v3_1) = some r ∧ σ = ⟨tab [(2, .vptr 0 0), (3, .vptr 1 0), (40, .d (.slice (((idx (x0.fL) (1 : Int)).fL).map eItem))), (41, .d (.val (.int .i64 (((idx (x0.fL) (1 : Int)).fL).length : Int)))), (42, .d (.val (.int .i64 v42)))], tabH [.var [.d (.val (.int .i64 (0))), .full (([] : (List (List UInt8))).map eS)], .var [.d (.val (.int .i64 v3_0_3)), .own 2 (v3_1.map eS)], .spare 1 v3_1.length], 3, []⟩) k3 (Nat.zero_le _) ⟨⟨tab [(2, .vptr 0 0), (3, .vptr 1 0), (40, .d (.slice (((idx (x0.fL) (1 : Int)).fL).map eItem))), (41, .d (.val (.int .i64 (((idx (x0.fL) (1 : Int)).fL).length : Int)))), (42, .d (.val (.int .i64 (0))))], tabH [.var [.d (.val (.int .i64 (0))), .full (([] : (List (List UInt8))).map eS)], .var [.d (.val (.int .i64 v3_0)), .own 2 (([] : (List (List UInt8))).map eS)], .spare 1 ([] : (List (List UInt8))).length], 3, []⟩, View.trans (View.bufV 1 1 1 rfl rfl (Nat.zero_le _)) (View.mk 3 [0, 1, 2] _ _ _ rfl rfl (by decide) (And.intro (Imp.of_eq rfl) (And.intro (Imp.of_eq rfl) (And.intro (Imp.of_eq rfl) (And.intro (Imp.of_eq rfl) (And.intro (Imp.of_eq rfl) trivial))))) (And.intro rfl (And.intro rfl (And.intro rfl trivial))) rfl (Nat.zero_le _) rfl), 0, v3_0, ([] : (List (List UInt8))), Nat.le_refl _, jG h, rfl⟩ ?_
      rintro k10s _ ⟨v42, v3_0_3, v3_1, k10h, h, rfl⟩
      obtain ⟨k10, rfl, h9⟩ := run_succ h; replace h := h9; clear h9
      refine QW.seq ?_
      refine QW.region (Nat.zero_le _) (PW.regT (by kernel_rfl) ?_)
      refine XK.st (some 43) rfl rfl (sf_lss (a := v42) (b := (((idx (x0.fL) (1 : Int)).fL).length : Int)) rfl rfl rfl ?_)
      refine XK.nil (nrm ?_)
      refine QW.seq ?_
      refine QW.cond (t := (decide (v42 < (((idx (x0.fL) (1 : Int)).fL).length : Int)))) rfl (Nat.zero_le _) (fun hb11 => ?_) (fun hb11 => ?_)
      · replace h := bGT h hb11
        refine QW.skip (Nat.zero_le _) (nrm ?_)
        refine QW.seq ?_
        refine QW.block ?_
        refine QW.seq ?_
        refine QW.region (Nat.zero_le _) (PW.regT (by kernel_rfl) ?_)
        obtain ⟨c12, h⟩ := gG h
        refine XK.st (some 44) rfl rfl (sf_idxA (l := (idx (x0.fL) (1 : Int)).fL) (i := v42) rfl TT.slcA_78 lay_Item rfl rfl c12 ?_)
        refine XK.st (some 45) rfl rfl (sf_ldC (d := .agg (cItem (idx ((idx (x0.fL) (1 : Int)).fL) v42))) rfl TT.tyA_80 rfl (⟨by simp [cItem], rfl⟩) ?_)
        refine XK.st (some 6) rfl rfl (sf_alloc (l := [.d (.val (.bool false)), .d (.val (sV ([] : List UInt8))), .full (([] : (List Item)).map eItem)]) rfl TT.zeroA_80 rfl rfl ?_)
        refine XK.st none rfl rfl (sf_stV (l' := [.d (.val (.bool ((idx ((idx (x0.fL) (1 : Int)).fL) v42).fList))), .d (.val (sV ((idx ((idx (x0.fL) (1 : Int)).fL) v42).fS))), .d (.slice (((idx ((idx (x0.fL) (1 : Int)).fL) v42).fL).map eItem))]) rfl TT.tyA_80 rfl rfl rfl rfl rfl rfl (by simp) rfl ?_)
        refine XK.nil (nrm ?_)
        refine QW.region (Nat.zero_le _) (PW.regT (by kernel_rfl) ?_)
        refine XK.st (some 46) rfl rfl (sf_fldV rfl TT.fldA_96_1 (by decide) rfl ?_)
        refine XK.st (some 47) rfl rfl (sf_ldV (v := .own 2 (v3_1.map eS)) rfl TT.tyA_94 rfl rfl ⟨⟨by simp, by simp⟩, rfl⟩ ?_)
        refine XK.st (some 48) rfl rfl (sf_fldV rfl TT.fldA_80_1 (by decide) rfl ?_)
        refine XK.st (some 49) rfl rfl (sf_ldV (v := .d (.val (sV ((idx ((idx (x0.fL) (1 : Int)).fL) v42).fS)))) rfl TT.tyA_9 rfl rfl ⟨⟨by simp, by simp⟩, rfl⟩ ?_)
        refine XK.st (some 50) rfl rfl (sf_row (en := eS) (l := ([(idx ((idx (x0.fL) (1 : Int)).fL) v42).fS] : List (List UInt8))) rfl TT.rowA_94 lay_S rfl rfl (by decide) (by simp [solids, partsP, evP, ofVal, PV.solid, putS_at, tab, unS, unT, unC, asCond, Value.oneCell']) ?_)
        obtain ⟨c13, h⟩ := gG h
        refine XK.st (some 51) rfl rfl (sf_appO (en := eS) (l := v3_1) (l2 := ([(idx ((idx (x0.fL) (1 : Int)).fL) v42).fS] : List (List UInt8))) rfl TT.rowA_94 TT.under_94 rfl lay_S rfl rfl rfl c13 (by decide) ?_)
        refine XK.st (some 52) rfl rfl (sf_fldV rfl TT.fldA_96_1 (by decide) rfl ?_)
        refine XK.st none rfl rfl (sf_stV (l' := [.d (.val (.int .i64 v3_0_3)), .own 4 ((v3_1 ++ ([(idx ((idx (x0.fL) (1 : Int)).fL) v42).fS] : List (List UInt8))).map eS)]) rfl TT.tyA_94 rfl rfl rfl rfl rfl rfl (by simp) rfl ?_)
        refine XK.nil (blN (nrm ?_))
        refine QW.region (Nat.zero_le _) (PW.regT (by kernel_rfl) ?_)
        obtain ⟨c14, h⟩ := gG h
        refine XK.st (some 53) rfl rfl (sf_add (a := v42) (b := (1 : Int)) rfl rfl rfl c14 ?_)
        refine XK.st (some 42) rfl rfl (sf_move (v := .d (.val (.int .i64 (v42 + (1 : Int))))) rfl rfl ?_)
        refine XK.nil (nrm ?_)
        exact ⟨k10, by omega, ⟨tab [(2, .vptr 0 0), (3, .vptr 1 0), (40, .d (.slice (((idx (x0.fL) (1 : Int)).fL).map eItem))), (41, .d (.val (.int .i64 (((idx (x0.fL) (1 : Int)).fL).length : Int)))), (42, .d (.val (.int .i64 (v42 + (1 : Int)))))], tabH [.var [.d (.val (.int .i64 (0))), .full (([] : (List (List UInt8))).map eS)], .var [.d (.val (.int .i64 v3_0_3)), .own 2 ((v3_1 ++ ([(idx ((idx (x0.fL) (1 : Int)).fL) v42).fS] : List (List UInt8))).map eS)], .spare 1 (v3_1 ++ ([(idx ((idx (x0.fL) (1 : Int)).fL) v42).fS] : List (List UInt8))).length], 3, []⟩, View.mk 3 [0, 1, 4] _ _ _ rfl rfl (by decide) (And.intro (Imp.of_eq rfl) (And.intro (Imp.of_eq rfl) (And.intro (Imp.of_eq rfl) (And.intro (Imp.of_eq rfl) (And.intro (Imp.of_eq rfl) trivial))))) (And.intro rfl (And.intro rfl (And.intro rfl trivial))) rfl (Nat.zero_le _) rfl, (v42 + (1 : Int)), v3_0_3, (v3_1 ++ ([(idx ((idx (x0.fL) (1 : Int)).fL) v42).fS] : List (List UInt8))), by omega, jG h, rfl⟩
      · replace h := bGF h hb11
        refine QW.exit (Nat.zero_le _) (thX (thX (exE (nrm ?_))))
        refine QW.seq ?_
        refine QW.region (Nat.zero_le _) (PW.regT (by kernel_rfl) ?_)
        refine XK.st (some 54) rfl rfl (sf_ldV (v := .agg [.d (.val (.int .i64 v3_0_3)), .own 2 (v3_1.map eS)]) rfl TT.tyA_96 rfl rfl ⟨⟨by simp, by simp⟩, rfl⟩ ?_)
        refine XK.st none rfl rfl (sf_stV (l' := [.d (.val (.int .i64 v3_0_3)), .own 2 (v3_1.map eS)]) rfl TT.tyA_96 rfl rfl rfl rfl rfl rfl (by simp) rfl ?_)
        refine XK.nil (nrm ?_)
        refine QW.ret (Nat.zero_le _) ?_
        obtain rfl := sG h
        exact Ends.one (.inr rfl) rfl (ResIs.cell rfl rfl TT.tyA_96 ⟨⟨by simp, by simp⟩, rfl⟩) rfl rfl

inductive C_wire_Get where
  | S
  | L1 (v51_2 : (List Item)) (v52_2 : Int) (v53 : Int) (v6_0_2 : (Arr 32 UInt8)) (v6_1 : (List Link))

noncomputable def step_wire_Get (s0 : (List UInt8)) : C_wire_Get → Option (C_wire_Get ⊕ (Witness × Int))
  | .S =>
    (bif (decide ((4194304 : Int) < (s0.length : Int))) then
    some (.inr ((⟨(Arr.rep 32 (0 : UInt8)), ([] : (List Link))⟩ : Witness), 4))
    else
    ((g_rlp_Whole s0).bind fun (x2 : (Item × Int)) =>
    (bif (!decide ((x2.2) = (0 : Int))) then
    some (.inr ((⟨(Arr.rep 32 (0 : UInt8)), ([] : (List Link))⟩ : Witness), x2.2))
    else
    gO ((!decide ((((x2.1).fL).length : Int) = (2 : Int))) = false → 0 ≤ (0 : Int) ∧ (0 : Int) < (((x2.1).fL).length : Int)) (
    (bif ((!decide ((((x2.1).fL).length : Int) = (2 : Int))) || (!decide ((((idx ((x2.1).fL) (0 : Int)).fS).length : Int) = (32 : Int)))) then
    some (.inr ((⟨(Arr.rep 32 (0 : UInt8)), ([] : (List Link))⟩ : Witness), 6))
    else
    gO (0 ≤ (0 : Int) ∧ (0 : Int) < (((x2.1).fL).length : Int)) (
    gO (((idx ((x2.1).fL) (0 : Int)).fS).length ≤ 9223372036854775807) (
    gO (32 ≤ ((idx ((x2.1).fL) (0 : Int)).fS).length) (
    gO (0 ≤ (1 : Int) ∧ (1 : Int) < (((x2.1).fL).length : Int)) (
    some (.inl (.L1 ((idx ((x2.1).fL) (1 : Int)).fL) (((idx ((x2.1).fL) (1 : Int)).fL).length : Int) (0) (toArr 32 ((idx ((x2.1).fL) (0 : Int)).fS)) ([] : (List Link)))))))))))))
  | .L1 v51_2 v52_2 v53 v6_0_2 v6_1 =>
    (bif (decide (v53 < v52_2)) then
    gO (0 ≤ v53 ∧ v53 < (v51_2.length : Int)) (
    ((g_wire_read (idx v51_2 v53)).bind fun (x14 : Link) =>
    gO ((v6_1.length + ([x14] : List Link).length) * 32 ≤ 140737488355328) (
    gO (inI (v53 + (1 : Int))) (
    some (.inl (.L1 v51_2 v52_2 (v53 + (1 : Int)) v6_0_2 (v6_1 ++ ([x14] : List Link))))))))
    else
    ((g_wire_Put (⟨v6_0_2, v6_1⟩ : Witness)).bind fun (x18 : ((List UInt8) × Int)) =>
    (bif ((!decide ((x18.2) = (0 : Int))) || (!(x18.1 == s0))) then
    some (.inr ((⟨(Arr.rep 32 (0 : UInt8)), ([] : (List Link))⟩ : Witness), 6))
    else
    some (.inr ((⟨v6_0_2, v6_1⟩ : Witness), 0)))))

noncomputable def g_wire_Get (s0 : (List UInt8)) : Option (Witness × Int) := theC (step_wire_Get s0) .S

set_option maxRecDepth 20000 in
set_option maxHeartbeats 4000000 in
theorem sim_wire_Get (s0 : (List UInt8)) (r : (Witness × Int)) (h : g_wire_Get s0 = some r) : Fun Try.prog 78 [.val (sV s0)] (.tuple [.agg (cWitness (r.1)), .val (.int .i64 (r.2))]) := by
  refine Fun.of_bodyQ Try.func78 rfl (by simp [Try.ntmps78]) ?_
  rw [Try.ntmps78, TT.res_78]
  refine QW.view (s' := ⟨tab [(0, .d (.val (sV s0)))], tabH [], 0, []⟩) (View.init (by rfl)) (Nat.zero_le _) ?_
  replace h := theC_get h
  obtain ⟨_, h⟩ := h
  obtain ⟨k0, rfl, h9⟩ := run_succ h; replace h := h9; clear h9
  refine QW.seq ?_
  refine QW.region (Nat.zero_le _) (PW.regT (by kernel_rfl) ?_)
  refine XK.st (some 2) rfl rfl (sf_alloc (l := ((((Arr.rep 32 (0 : UInt8)).1.map byteD).map PV.d) ++ ([.full (([] : (List Link)).map eLink)]))) rfl TT.zeroA_91 rfl rfl ?_)
  refine XK.st (some 3) rfl rfl (sf_assign (v := .d (.val (.int .i64 (0)))) rfl rfl ?_)
  refine XK.nil (nrm ?_)
  refine QW.seq ?_
  refine QW.seq ?_
  refine QW.region (Nat.zero_le _) (PW.regT (by kernel_rfl) ?_)
  refine XK.st (some 11) rfl rfl (sf_move (v := .d (.val (sV s0))) rfl rfl ?_)
  refine XK.st (some 12) rfl rfl (sf_lenS (l := s0) rfl TT.under_9 rfl ?_)
  refine XK.st (some 13) rfl rfl (sf_gtr (a := (s0.length : Int)) (b := (4194304 : Int)) rfl rfl rfl ?_)
  refine XK.nil (nrm ?_)
  refine QW.cond (t := (decide ((4194304 : Int) < (s0.length : Int)))) rfl (Nat.zero_le _) (fun hb1 => ?_) (fun hb1 => ?_)
  · replace h := bGT h hb1
    refine QW.seq ?_
    refine QW.region (Nat.zero_le _) (PW.regT (by kernel_rfl) ?_)
    refine XK.st (some 14) rfl rfl (sf_bld (v := .agg ((((Arr.rep 32 (0 : UInt8)).1.map byteD).map PV.d) ++ ([.full (([] : (List Link)).map eLink)]))) rfl TT.bldA_91 (build_of rfl fill_nil) ?_)
    refine XK.st none rfl rfl (sf_stV (c := ((((Arr.rep 32 (0 : UInt8)).1.map byteD).map PV.d) ++ ([.full (([] : (List Link)).map eLink)]))) (l' := ((((Arr.rep 32 (0 : UInt8)).1.map byteD).map PV.d) ++ ([.full (([] : (List Link)).map eLink)]))) rfl TT.tyA_91 rfl rfl rfl rfl rfl (len_app (b := 1) (len_map2 _) rfl rfl) (le_of_len (len_app (b := 1) (len_map2 _) rfl rfl) (Nat.le_of_ble_eq_true rfl)) (spl_same ((len_app (b := 1) (len_map2 _) rfl rfl).trans (len_app (b := 1) (len_map2 _) rfl rfl).symm)) ?_)
    refine XK.st (some 3) rfl rfl (sf_assign (v := .d (.val (.int .i64 (4)))) rfl rfl ?_)
    refine XK.nil (nrm ?_)
    refine QW.ret (Nat.zero_le _) (thR ?_)
    obtain rfl := sG h
    exact Ends.more (.inr rfl) rfl (ps := [.agg ((((Arr.rep 32 (0 : UInt8)).1.map byteD).map PV.d) ++ ([.full (([] : (List Link)).map eLink)])), .d (.val (.int .i64 (4)))]) (And.intro (ResIs.cell rfl rfl TT.tyA_91 (ldv_whole (len_app (b := 1) (len_map2 _) rfl rfl) (by decide))) (And.intro (ResIs.tmp rfl) trivial)) (by simp only [PV.toD, PV.toDs, toDs_appS, toDs_map, Option.bind_some, Option.map_some, cWitness] <;> rfl) rfl
  · replace h := bGF h hb1
    refine QW.skip (Nat.zero_le _) (nrm ?_)
    refine QW.seq ?_
    refine QW.region (Nat.zero_le _) (PW.regT (by kernel_rfl) ?_)
    refine XK.st (some 16) rfl rfl (sf_move (v := .d (.val (sV s0))) rfl rfl ?_)
    obtain ⟨x2, hx3, h⟩ := bG h
    refine XK.st (some 17) rfl rfl (sf_call rfl rfl TT.enters_103 rfl (sim_rlp_Whole s0 _ hx3) ?_)
    refine XK.st (some 15) rfl rfl (sf_move (v := .d (.tuple [.agg (cItem (x2.1)), .val (.int .i64 (x2.2))])) rfl rfl ?_)
    refine XK.st (some 18) rfl rfl (sf_extract rfl rfl rfl ?_)
    refine XK.st (some 19) rfl rfl (sf_extract rfl rfl rfl ?_)
    refine XK.st (some 4) rfl rfl (sf_alloc (l := [.d (.val (.bool false)), .d (.val (sV ([] : List UInt8))), .full (([] : (List Item)).map eItem)]) rfl TT.zeroA_80 rfl rfl ?_)
    refine XK.st none rfl rfl (sf_stV (l' := [.d (.val (.bool ((x2.1).fList))), .d (.val (sV ((x2.1).fS))), .d (.slice (((x2.1).fL).map eItem))]) rfl TT.tyA_80 rfl rfl rfl rfl rfl rfl (by simp) rfl ?_)
    refine XK.st (some 5) rfl rfl (sf_assign (v := .d (.val (.int .i64 (x2.2)))) rfl rfl ?_)
    refine XK.nil (nrm ?_)
    refine QW.seq ?_
    refine QW.seq ?_
    refine QW.region (Nat.zero_le _) (PW.regT (by kernel_rfl) ?_)
    refine XK.st (some 20) rfl rfl (sf_move (v := .d (.val (.int .i64 (x2.2)))) rfl rfl ?_)
    refine XK.st (some 21) rfl rfl (sf_ne (a := (x2.2)) (b := (0 : Int)) rfl rfl rfl ?_)
    refine XK.nil (nrm ?_)
    refine QW.cond (t := (!decide ((x2.2) = (0 : Int)))) rfl (Nat.zero_le _) (fun hb4 => ?_) (fun hb4 => ?_)
    · replace h := bGT h hb4
      refine QW.seq ?_
      refine QW.region (Nat.zero_le _) (PW.regT (by kernel_rfl) ?_)
      refine XK.st (some 22) rfl rfl (sf_bld (v := .agg ((((Arr.rep 32 (0 : UInt8)).1.map byteD).map PV.d) ++ ([.full (([] : (List Link)).map eLink)]))) rfl TT.bldA_91 (build_of rfl fill_nil) ?_)
      refine XK.st (some 23) rfl rfl (sf_move (v := .d (.val (.int .i64 (x2.2)))) rfl rfl ?_)
      refine XK.st none rfl rfl (sf_stV (c := ((((Arr.rep 32 (0 : UInt8)).1.map byteD).map PV.d) ++ ([.full (([] : (List Link)).map eLink)]))) (l' := ((((Arr.rep 32 (0 : UInt8)).1.map byteD).map PV.d) ++ ([.full (([] : (List Link)).map eLink)]))) rfl TT.tyA_91 rfl rfl rfl rfl rfl (len_app (b := 1) (len_map2 _) rfl rfl) (le_of_len (len_app (b := 1) (len_map2 _) rfl rfl) (Nat.le_of_ble_eq_true rfl)) (spl_same ((len_app (b := 1) (len_map2 _) rfl rfl).trans (len_app (b := 1) (len_map2 _) rfl rfl).symm)) ?_)
      refine XK.st (some 3) rfl rfl (sf_assign (v := .d (.val (.int .i64 (x2.2)))) rfl rfl ?_)
      refine XK.nil (nrm ?_)
      refine QW.ret (Nat.zero_le _) (thR ?_)
      obtain rfl := sG h
      exact Ends.more (.inr rfl) rfl (ps := [.agg ((((Arr.rep 32 (0 : UInt8)).1.map byteD).map PV.d) ++ ([.full (([] : (List Link)).map eLink)])), .d (.val (.int .i64 (x2.2)))]) (And.intro (ResIs.cell rfl rfl TT.tyA_91 (ldv_whole (len_app (b := 1) (len_map2 _) rfl rfl) (by decide))) (And.intro (ResIs.tmp rfl) trivial)) (by simp only [PV.toD, PV.toDs, toDs_appS, toDs_map, Option.bind_some, Option.map_some, cWitness] <;> rfl) rfl
    · replace h := bGF h hb4
      refine QW.skip (Nat.zero_le _) (nrm ?_)
      refine QW.seq ?_
      refine QW.seq ?_
      refine QW.region (Nat.zero_le _) (PW.regT (by kernel_rfl) ?_)
      refine XK.st (some 24) rfl rfl (sf_fldV rfl TT.fldA_80_2 (by decide) rfl ?_)
      refine XK.st (some 25) rfl rfl (sf_ldV (v := .d (.slice (((x2.1).fL).map eItem))) rfl TT.tyA_78 rfl rfl ⟨⟨by simp, by simp⟩, rfl⟩ ?_)
      refine XK.st (some 26) rfl rfl (sf_lenL (en := eItem) (l := (x2.1).fL) rfl TT.under_78 rfl ?_)
      refine XK.st (some 27) rfl rfl (sf_ne (a := (((x2.1).fL).length : Int)) (b := (2 : Int)) rfl rfl rfl ?_)
      refine XK.st (some 28) rfl rfl (sf_move (v := .d (.val (.bool (!decide ((((x2.1).fL).length : Int) = (2 : Int)))))) rfl rfl ?_)
      refine XK.gd (v := .vptr 1 2) (T := []) (some 29) rfl rfl (by repeat (first | exact trivial | refine And.intro (fun hg => by first | rfl | exact hg | exact (Bool.and_eq_true_iff.mp hg).1 | exact (Bool.and_eq_true_iff.mp (Bool.and_eq_true_iff.mp hg).1).1) ?_)) (fun hg => sf_fldV rfl TT.fldA_80_2 (by decide) rfl ⟨⟨rfl, rfl, rfl⟩, rfl, Imp.refl⟩) (fun _ _ hi => nomatch hi) ?_
      refine XK.gd (v := .d (.slice (((x2.1).fL).map eItem))) (T := [1]) (some 30) rfl rfl (by repeat (first | exact trivial | refine And.intro (fun hg => by first | rfl | exact hg | exact (Bool.and_eq_true_iff.mp hg).1 | exact (Bool.and_eq_true_iff.mp (Bool.and_eq_true_iff.mp hg).1).1) ?_)) (fun hg => sf_ldV (v := .d (.slice (((x2.1).fL).map eItem))) rfl TT.tyA_78 rfl rfl ⟨⟨by simp, by simp⟩, rfl⟩ ⟨⟨rfl, rfl, rfl⟩, rfl, Imp.refl⟩) (fun _ i hi => by simp only [List.mem_singleton] at hi; subst hi; decide) ?_
      obtain ⟨c5, h⟩ := gG h
      refine XK.gd (v := .d (.cptr (cItem (idx ((x2.1).fL) (0 : Int))))) (T := []) (some 31) rfl rfl (by repeat (first | exact trivial | refine And.intro (fun hg => by first | rfl | exact hg | exact (Bool.and_eq_true_iff.mp hg).1 | exact (Bool.and_eq_true_iff.mp (Bool.and_eq_true_iff.mp hg).1).1) ?_)) (fun hg => sf_idxA (l := (x2.1).fL) (i := (0 : Int)) rfl TT.slcA_78 lay_Item rfl rfl (c5 (eqB hg)) ⟨⟨rfl, rfl, rfl⟩, rfl, Imp.refl⟩) (fun _ _ hi => nomatch hi) ?_
      refine XK.gd (v := .d (.cptr ((cItem (idx ((x2.1).fL) (0 : Int))).drop 1))) (T := []) (some 32) rfl rfl (by repeat (first | exact trivial | refine And.intro (fun hg => by first | rfl | exact hg | exact (Bool.and_eq_true_iff.mp hg).1 | exact (Bool.and_eq_true_iff.mp (Bool.and_eq_true_iff.mp hg).1).1) ?_)) (fun hg => sf_fldC rfl TT.fldA_80_1 (by decide) rfl ⟨⟨rfl, rfl, rfl⟩, rfl, Imp.refl⟩) (fun _ _ hi => nomatch hi) ?_
      refine XK.gd (v := .d (.val (sV ((idx ((x2.1).fL) (0 : Int)).fS)))) (T := []) (some 33) rfl rfl (by repeat (first | exact trivial | refine And.intro (fun hg => by first | rfl | exact hg | exact (Bool.and_eq_true_iff.mp hg).1 | exact (Bool.and_eq_true_iff.mp (Bool.and_eq_true_iff.mp hg).1).1) ?_)) (fun hg => sf_ldC (d := .val (sV ((idx ((x2.1).fL) (0 : Int)).fS))) rfl TT.tyA_9 rfl (LdC.one) ⟨⟨rfl, rfl, rfl⟩, rfl, Imp.refl⟩) (fun _ _ hi => nomatch hi) ?_
      refine XK.gd (v := .d (.val (.int .i64 (((idx ((x2.1).fL) (0 : Int)).fS).length : Int)))) (T := []) (some 34) rfl rfl (by repeat (first | exact trivial | refine And.intro (fun hg => by first | rfl | exact hg | exact (Bool.and_eq_true_iff.mp hg).1 | exact (Bool.and_eq_true_iff.mp (Bool.and_eq_true_iff.mp hg).1).1) ?_)) (fun hg => sf_lenS (l := (idx ((x2.1).fL) (0 : Int)).fS) rfl TT.under_9 rfl ⟨⟨rfl, rfl, rfl⟩, rfl, Imp.refl⟩) (fun _ _ hi => nomatch hi) ?_
      refine XK.gd (v := .d (.val (.bool (!decide ((((idx ((x2.1).fL) (0 : Int)).fS).length : Int) = (32 : Int)))))) (T := []) (some 35) rfl rfl (by repeat (first | exact trivial | refine And.intro (fun hg => by first | rfl | exact hg | exact (Bool.and_eq_true_iff.mp hg).1 | exact (Bool.and_eq_true_iff.mp (Bool.and_eq_true_iff.mp hg).1).1) ?_)) (fun hg => sf_ne (a := (((idx ((x2.1).fL) (0 : Int)).fS).length : Int)) (b := (32 : Int)) rfl rfl rfl ⟨⟨rfl, rfl, rfl⟩, rfl, Imp.refl⟩) (fun _ _ hi => nomatch hi) ?_
      refine XK.st (some 36) rfl rfl (sf_pickO rfl rfl rfl rfl (fun _ => rfl) (fun hb => by rw [hb]; rfl) ?_)
      refine XK.nil (nrm ?_)
      refine QW.cond (t := ((!decide ((((x2.1).fL).length : Int) = (2 : Int))) || (!decide ((((idx ((x2.1).fL) (0 : Int)).fS).length : Int) = (32 : Int))))) rfl (Nat.zero_le _) (fun hb6 => ?_) (fun hb6 => ?_)
      · replace h := bGT h hb6
        refine QW.seq ?_
        refine QW.region (Nat.zero_le _) (PW.regT (by kernel_rfl) ?_)
        refine XK.st (some 37) rfl rfl (sf_bld (v := .agg ((((Arr.rep 32 (0 : UInt8)).1.map byteD).map PV.d) ++ ([.full (([] : (List Link)).map eLink)]))) rfl TT.bldA_91 (build_of rfl fill_nil) ?_)
        refine XK.st none rfl rfl (sf_stV (c := ((((Arr.rep 32 (0 : UInt8)).1.map byteD).map PV.d) ++ ([.full (([] : (List Link)).map eLink)]))) (l' := ((((Arr.rep 32 (0 : UInt8)).1.map byteD).map PV.d) ++ ([.full (([] : (List Link)).map eLink)]))) rfl TT.tyA_91 rfl rfl rfl rfl rfl (len_app (b := 1) (len_map2 _) rfl rfl) (le_of_len (len_app (b := 1) (len_map2 _) rfl rfl) (Nat.le_of_ble_eq_true rfl)) (spl_same ((len_app (b := 1) (len_map2 _) rfl rfl).trans (len_app (b := 1) (len_map2 _) rfl rfl).symm)) ?_)
        refine XK.st (some 3) rfl rfl (sf_assign (v := .d (.val (.int .i64 (6)))) rfl rfl ?_)
        refine XK.nil (nrm ?_)
        refine QW.ret (Nat.zero_le _) (thR ?_)
        obtain rfl := sG h
        exact Ends.more (.inr rfl) rfl (ps := [.agg ((((Arr.rep 32 (0 : UInt8)).1.map byteD).map PV.d) ++ ([.full (([] : (List Link)).map eLink)])), .d (.val (.int .i64 (6)))]) (And.intro (ResIs.cell rfl rfl TT.tyA_91 (ldv_whole (len_app (b := 1) (len_map2 _) rfl rfl) (by decide))) (And.intro (ResIs.tmp rfl) trivial)) (by simp only [PV.toD, PV.toDs, toDs_appS, toDs_map, Option.bind_some, Option.map_some, cWitness] <;> rfl) rfl
      · replace h := bGF h hb6
        refine QW.skip (Nat.zero_le _) (nrm ?_)
        refine QW.seq ?_
        refine QW.region (Nat.zero_le _) (PW.regT (by kernel_rfl) ?_)
        refine XK.st (some 38) rfl rfl (sf_fldV rfl TT.fldA_80_2 (by decide) rfl ?_)
        refine XK.st (some 39) rfl rfl (sf_ldV (v := .d (.slice (((x2.1).fL).map eItem))) rfl TT.tyA_78 rfl rfl ⟨⟨by simp, by simp⟩, rfl⟩ ?_)
        obtain ⟨c7, h⟩ := gG h
        refine XK.st (some 40) rfl rfl (sf_idxA (l := (x2.1).fL) (i := (0 : Int)) rfl TT.slcA_78 lay_Item rfl rfl c7 ?_)
        refine XK.st (some 41) rfl rfl (sf_fldC rfl TT.fldA_80_1 (by decide) rfl ?_)
        refine XK.st (some 42) rfl rfl (sf_ldC (d := .val (sV ((idx ((x2.1).fL) (0 : Int)).fS))) rfl TT.tyA_9 rfl (LdC.one) ?_)
        obtain ⟨c8, h⟩ := gG h
        refine XK.s2r (l := (idx ((x2.1).fL) (0 : Int)).fS) (some 43) rfl rfl rfl TT.under_9 TT.under_37 TT.under_5 rfl c8 ?_
        obtain ⟨c9, h⟩ := gG h
        refine XK.st (some 44) rfl rfl (sf_toArr (en := byteD) (l := ((idx ((x2.1).fL) (0 : Int)).fS)) rfl TT.arrA_29 rfl (fun _ => rfl) c9 (by decide) ?_)
        refine XK.st (some 45) rfl rfl (sf_ldC (d := .agg ((toArr 32 ((idx ((x2.1).fL) (0 : Int)).fS)).1.map byteD)) rfl TT.tyA_29 rfl (ld_toArr c9) ?_)
        refine XK.st (some 46) rfl rfl (sf_bld (v := .agg ((((toArr 32 ((idx ((x2.1).fL) (0 : Int)).fS)).1.map byteD).map PV.d) ++ ([.full (([] : (List Link)).map eLink)]))) rfl TT.bldA_91 (build_of rfl (fill_step (p := .d (.agg ((toArr 32 ((idx ((x2.1).fL) (0 : Int)).fS)).1.map byteD))) (cells := ((((Arr.rep 32 (0 : UInt8)).1.map byteD).map PV.d) ++ ([.full (([] : (List Link)).map eLink)]))) (cells' := ((((toArr 32 ((idx ((x2.1).fL) (0 : Int)).fS)).1.map byteD).map PV.d) ++ ([.full (([] : (List Link)).map eLink)]))) rfl rfl (show (((toArr 32 ((idx ((x2.1).fL) (0 : Int)).fS)).1.map byteD).map PV.d).length = _ from len_map2 _) (le_of_len (len_app (b := 1) (len_map2 _) rfl rfl) (Nat.le_of_ble_eq_true rfl)) (spl_seg (len_map2 _) (len_map2 _)) fill_nil)) ?_)
        refine XK.st (some 6) rfl rfl (sf_alloc (l := ((((Arr.rep 32 (0 : UInt8)).1.map byteD).map PV.d) ++ ([.full (([] : (List Link)).map eLink)]))) rfl TT.zeroA_91 rfl rfl ?_)
        refine XK.st none rfl rfl (sf_stV (c := ((((toArr 32 ((idx ((x2.1).fL) (0 : Int)).fS)).1.map byteD).map PV.d) ++ ([.full (([] : (List Link)).map eLink)]))) (l' := ((((toArr 32 ((idx ((x2.1).fL) (0 : Int)).fS)).1.map byteD).map PV.d) ++ ([.full (([] : (List Link)).map eLink)]))) rfl TT.tyA_91 rfl rfl rfl rfl rfl (len_app (b := 1) (len_map2 _) rfl rfl) (le_of_len (len_app (b := 1) (len_map2 _) rfl rfl) (Nat.le_of_ble_eq_true rfl)) (spl_same ((len_app (b := 1) (len_map2 _) rfl rfl).trans (len_app (b := 1) (len_map2 _) rfl rfl).symm)) ?_)
        refine XK.nil (nrm ?_)
        refine QW.seq ?_
        refine QW.seq ?_
        refine QW.region (Nat.zero_le _) (PW.regT (by kernel_rfl) ?_)
        refine XK.st (some 47) rfl rfl (sf_fldV rfl TT.fldA_80_2 (by decide) rfl ?_)
        refine XK.st (some 48) rfl rfl (sf_ldV (v := .d (.slice (((x2.1).fL).map eItem))) rfl TT.tyA_78 rfl rfl ⟨⟨by simp, by simp⟩, rfl⟩ ?_)
        obtain ⟨c10, h⟩ := gG h
        refine XK.st (some 49) rfl rfl (sf_idxA (l := (x2.1).fL) (i := (1 : Int)) rfl TT.slcA_78 lay_Item rfl rfl c10 ?_)
        refine XK.st (some 50) rfl rfl (sf_fldC rfl TT.fldA_80_2 (by decide) rfl ?_)
        refine XK.st (some 51) rfl rfl (sf_ldC (d := .slice (((idx ((x2.1).fL) (1 : Int)).fL).map eItem)) rfl TT.tyA_78 rfl (LdC.one) ?_)
        refine XK.st (some 52) rfl rfl (sf_lenL (en := eItem) (l := (idx ((x2.1).fL) (1 : Int)).fL) rfl TT.under_78 rfl ?_)
        refine XK.st (some 53) rfl rfl (sf_move (v := .d (.val (.int .i64 (0)))) rfl rfl ?_)
        refine XK.nil (nrm ?_)
        refine QW.block ?_
        refine QW.loop (fun k σ => ∃ v51_2 : (List Item), ∃ v52_2 : Int, ∃ v53 : Int, ∃ v6_0_2 : (Arr 32 UInt8), ∃ v6_1 : (List Link), k ≤ k0 ∧ run (step_wire_Get s0) k (.L1 v51_2 v52_2 v53 v6_0_2 v6_1) = some r ∧ σ = ⟨tab [(0, .d (.val (sV s0))), (2, .vptr 0 0), (6, .vptr 1 0), (51, .d (.slice (v51_2.map eItem))), (52, .d (.val (.int .i64 v52_2))), (53, .d (.val (.int .i64 v53)))], tabH [.var ((((Arr.rep 32 (0 : UInt8)).1.map byteD).map PV.d) ++ ([.full (([] : (List Link)).map eLink)])), .var (((v6_0_2.1.map byteD).map PV.d) ++ ([.own 2 (v6_1.map eLink)])), .spare 2 v6_1.length], 3, []⟩) k0 (Nat.zero_le _) ⟨⟨tab [(0, .d (.val (sV s0))), (2, .vptr 0 0), (6, .vptr 1 0), (51, .d (.slice (((idx ((x2.1).fL) (1 : Int)).fL).map eItem))), (52, .d (.val (.int .i64 (((idx ((x2.1).fL) (1 : Int)).fL).length : Int)))), (53, .d (.val (.int .i64 (0))))], tabH [.var ((((Arr.rep 32 (0 : UInt8)).1.map byteD).map PV.d) ++ ([.full (([] : (List Link)).map eLink)])), .var ((((toArr 32 ((idx ((x2.1).fL) (0 : Int)).fS)).1.map byteD).map PV.d) ++ ([.own 2 (([] : (List Link)).map eLink)])), .spare 2 ([] : (List Link)).length], 3, []⟩, View.trans (View.bufW 3 32 2 rfl (get_in 32 0 (len_map2 _) rfl) (set_in 32 0 (len_map2 _) rfl) (Nat.zero_le _)) (View.mk 3 [0, 3, 4] _ _ _ rfl rfl (by decide) (And.intro (Imp.of_eq rfl) (And.intro (Imp.of_eq rfl) (And.intro (Imp.of_eq rfl) (And.intro (Imp.of_eq rfl) (And.intro (Imp.of_eq rfl) (And.intro (Imp.of_eq rfl) trivial)))))) (And.intro (by simp only [HO.re, res_app, PV.res_d]; rfl) (And.intro (by simp only [HO.re, res_app, PV.res_d]; rfl) (And.intro rfl trivial))) rfl (Nat.zero_le _) rfl), (idx ((x2.1).fL) (1 : Int)).fL, (((idx ((x2.1).fL) (1 : Int)).fL).length : Int), 0, (toArr 32 ((idx ((x2.1).fL) (0 : Int)).fS)), ([] : (List Link)), Nat.le_refl _, jG h, rfl⟩ ?_
        rintro k11s _ ⟨v51_2, v52_2, v53, v6_0_2, v6_1, k11h, h, rfl⟩
        obtain ⟨k11, rfl, h9⟩ := run_succ h; replace h := h9; clear h9
        refine QW.seq ?_
        refine QW.region (Nat.zero_le _) (PW.regT (by kernel_rfl) ?_)
        refine XK.st (some 54) rfl rfl (sf_lss (a := v53) (b := v52_2) rfl rfl rfl ?_)
        refine XK.nil (nrm ?_)
        refine QW.seq ?_
        refine QW.cond (t := (decide (v53 < v52_2))) rfl (Nat.zero_le _) (fun hb12 => ?_) (fun hb12 => ?_)
        · replace h := bGT h hb12
          refine QW.skip (Nat.zero_le _) (nrm ?_)
          refine QW.seq ?_
          refine QW.block ?_
          refine QW.seq ?_
          refine QW.region (Nat.zero_le _) (PW.regT (by kernel_rfl) ?_)
          obtain ⟨c13, h⟩ := gG h
          refine XK.st (some 55) rfl rfl (sf_idxA (l := v51_2) (i := v53) rfl TT.slcA_78 lay_Item rfl rfl c13 ?_)
          refine XK.st (some 56) rfl rfl (sf_ldC (d := .agg (cItem (idx v51_2 v53))) rfl TT.tyA_80 rfl (⟨by simp [cItem], rfl⟩) ?_)
          refine XK.st (some 8) rfl rfl (sf_alloc (l := [.d (.val (.bool false)), .d (.val (sV ([] : List UInt8))), .full (([] : (List Item)).map eItem)]) rfl TT.zeroA_80 rfl rfl ?_)
          refine XK.st none rfl rfl (sf_stV (l' := [.d (.val (.bool ((idx v51_2 v53).fList))), .d (.val (sV ((idx v51_2 v53).fS))), .d (.slice (((idx v51_2 v53).fL).map eItem))]) rfl TT.tyA_80 rfl rfl rfl rfl rfl rfl (by simp) rfl ?_)
          refine XK.nil (nrm ?_)
          refine QW.region (Nat.zero_le _) (PW.regK (id := 12) mixedX (M := _) rfl (by kernel_rfl) ?_)
          refine RK.st (some 57) rfl rfl (sf_fldV rfl TT.fldA_91_1 (by decide) rfl ?_)
          refine RK.st (some 58) rfl rfl (sf_ldV (v := .own 2 (v6_1.map eLink)) rfl TT.tyA_89 rfl rfl (ldv_in 32 0 (len_map2 _) ⟨⟨by simp, by simp⟩, rfl⟩) ?_)
          refine RK.as (some 59) rfl rfl (sf_ldV (v := .agg [.d (.val (.bool ((idx v51_2 v53).fList))), .d (.val (sV ((idx v51_2 v53).fS))), .d (.slice (((idx v51_2 v53).fL).map eItem))]) rfl TT.tyA_80 rfl rfl ⟨⟨by simp, by simp⟩, rfl⟩ ⟨.d (.agg (cItem (idx v51_2 v53))), (Imp.toD rfl), ?_⟩)
          obtain ⟨x14, hx15, h⟩ := bG h
          refine RK.st (some 60) rfl rfl (sf_call rfl rfl TT.enters_114 rfl (sim_wire_read (idx v51_2 v53) _ hx15) ?_)
          refine RK.st (some 61) rfl rfl (sf_row (en := eLink) (l := ([x14] : List Link)) rfl TT.rowA_89 lay_Link (by first | rfl | (simp only [List.map_cons, List.map_nil, eLink_eq]; rfl)) rfl (by decide) (by simp [solids, partsP, evP, ofVal, PV.solid, putS_at, tab, unS, unT, unC, asCond, Value.oneCell']) ?_)
          obtain ⟨c16, h⟩ := gG h
          refine RK.st (some 62) rfl rfl (sf_appO (en := eLink) (l := v6_1) (l2 := ([x14] : List Link)) rfl TT.rowA_89 TT.under_89 rfl lay_Link rfl rfl rfl c16 (by decide) ?_)
          refine RK.st (some 63) rfl rfl (sf_fldV rfl TT.fldA_91_1 (by decide) rfl ?_)
          refine RK.st none rfl rfl (sf_stV (l' := (((v6_0_2.1.map byteD).map PV.d) ++ ([.own 4 ((v6_1 ++ ([x14] : List Link)).map eLink)]))) rfl TT.tyA_89 rfl rfl rfl rfl rfl rfl (le_of_len (len_app (b := 1) (len_map2 _) rfl rfl) (Nat.le_of_ble_eq_true rfl)) (spl_in 32 0 (len_map2 _) rfl) ?_)
          refine RK.nil ⟨RecsOK.comp (by rfl), (blN (nrm ?_))⟩
          refine QW.region (Nat.zero_le _) (PW.regT (by kernel_rfl) ?_)
          obtain ⟨c17, h⟩ := gG h
          refine XK.st (some 64) rfl rfl (sf_add (a := v53) (b := (1 : Int)) rfl rfl rfl c17 ?_)
          refine XK.st (some 53) rfl rfl (sf_move (v := .d (.val (.int .i64 (v53 + (1 : Int))))) rfl rfl ?_)
          refine XK.nil (nrm ?_)
          exact ⟨k11, by omega, ⟨tab [(0, .d (.val (sV s0))), (2, .vptr 0 0), (6, .vptr 1 0), (51, .d (.slice (v51_2.map eItem))), (52, .d (.val (.int .i64 v52_2))), (53, .d (.val (.int .i64 (v53 + (1 : Int)))))], tabH [.var ((((Arr.rep 32 (0 : UInt8)).1.map byteD).map PV.d) ++ ([.full (([] : (List Link)).map eLink)])), .var (((v6_0_2.1.map byteD).map PV.d) ++ ([.own 2 ((v6_1 ++ ([x14] : List Link)).map eLink)])), .spare 2 (v6_1 ++ ([x14] : List Link)).length], 3, []⟩, View.mk 3 [0, 1, 4] _ _ _ rfl rfl (by decide) (And.intro (Imp.of_eq rfl) (And.intro (Imp.of_eq rfl) (And.intro (Imp.of_eq rfl) (And.intro (Imp.of_eq rfl) (And.intro (Imp.of_eq rfl) (And.intro (Imp.of_eq rfl) trivial)))))) (And.intro (by simp only [HO.re, res_app, PV.res_d]; rfl) (And.intro (by simp only [HO.re, res_app, PV.res_d]; rfl) (And.intro rfl trivial))) rfl (Nat.zero_le _) rfl, v51_2, v52_2, (v53 + (1 : Int)), v6_0_2, (v6_1 ++ ([x14] : List Link)), by omega, jG h, rfl⟩
        · replace h := bGF h hb12
          refine QW.exit (Nat.zero_le _) (thX (thX (exE (nrm ?_))))
          refine QW.seq ?_
          refine QW.seq ?_
          refine QW.region (Nat.zero_le _) (PW.regT (by kernel_rfl) ?_)
          refine XK.as (some 66) rfl rfl (sf_ldV (v := .agg (((v6_0_2.1.map byteD).map PV.d) ++ ([.own 2 (v6_1.map eLink)]))) rfl TT.tyA_91 rfl rfl (ldv_whole (len_app (b := 1) (len_map2 _) rfl rfl) (by decide)) ⟨.d (.agg (cWitness (⟨v6_0_2, v6_1⟩ : Witness))), (Imp.toD (toD_agg (toDs_app toDs_map rfl))), ?_⟩)
          obtain ⟨x18, hx19, h⟩ := bG h
          refine XK.st (some 67) rfl rfl (sf_call rfl rfl TT.enters_72 rfl (sim_wire_Put (⟨v6_0_2, v6_1⟩ : Witness) _ hx19) ?_)
          refine XK.st (some 65) rfl rfl (sf_move (v := .d (.tuple [.val (sV (x18.1)), .val (.int .i64 (x18.2))])) rfl rfl ?_)
          refine XK.st (some 68) rfl rfl (sf_extract rfl rfl rfl ?_)
          refine XK.st (some 69) rfl rfl (sf_extract rfl rfl rfl ?_)
          refine XK.st (some 9) rfl rfl (sf_assign (v := .d (.val (sV (x18.1)))) rfl rfl ?_)
          refine XK.st (some 10) rfl rfl (sf_assign (v := .d (.val (.int .i64 (x18.2)))) rfl rfl ?_)
          refine XK.nil (nrm ?_)
          refine QW.seq ?_
          refine QW.region (Nat.zero_le _) (PW.regT (by kernel_rfl) ?_)
          refine XK.st (some 70) rfl rfl (sf_move (v := .d (.val (.int .i64 (x18.2)))) rfl rfl ?_)
          refine XK.st (some 71) rfl rfl (sf_ne (a := (x18.2)) (b := (0 : Int)) rfl rfl rfl ?_)
          refine XK.st (some 72) rfl rfl (sf_move (v := .d (.val (.bool (!decide ((x18.2) = (0 : Int)))))) rfl rfl ?_)
          refine XK.gd (v := .d (.val (sV (x18.1)))) (T := []) (some 73) rfl rfl (by repeat (first | exact trivial | refine And.intro (fun hg => by first | rfl | exact hg | exact (Bool.and_eq_true_iff.mp hg).1 | exact (Bool.and_eq_true_iff.mp (Bool.and_eq_true_iff.mp hg).1).1) ?_)) (fun hg => sf_move (v := .d (.val (sV (x18.1)))) rfl rfl ⟨⟨rfl, rfl, rfl⟩, rfl, Imp.refl⟩) (fun _ _ hi => nomatch hi) ?_
          refine XK.gd (v := .d (.val (sV s0))) (T := []) (some 74) rfl rfl (by repeat (first | exact trivial | refine And.intro (fun hg => by first | rfl | exact hg | exact (Bool.and_eq_true_iff.mp hg).1 | exact (Bool.and_eq_true_iff.mp (Bool.and_eq_true_iff.mp hg).1).1) ?_)) (fun hg => sf_move (v := .d (.val (sV s0))) rfl rfl ⟨⟨rfl, rfl, rfl⟩, rfl, Imp.refl⟩) (fun _ _ hi => nomatch hi) ?_
          refine XK.gd (v := .d (.val (.bool (!(x18.1 == s0))))) (T := []) (some 75) rfl rfl (by repeat (first | exact trivial | refine And.intro (fun hg => by first | rfl | exact hg | exact (Bool.and_eq_true_iff.mp hg).1 | exact (Bool.and_eq_true_iff.mp (Bool.and_eq_true_iff.mp hg).1).1) ?_)) (fun hg => sf_sne (a := x18.1) (b := s0) rfl rfl rfl ⟨⟨rfl, rfl, rfl⟩, rfl, Imp.refl⟩) (fun _ _ hi => nomatch hi) ?_
          refine XK.st (some 76) rfl rfl (sf_pickO rfl rfl rfl rfl (fun _ => rfl) (fun hb => by rw [hb]; rfl) ?_)
          refine XK.nil (nrm ?_)
          refine QW.cond (t := ((!decide ((x18.2) = (0 : Int))) || (!(x18.1 == s0)))) rfl (Nat.zero_le _) (fun hb20 => ?_) (fun hb20 => ?_)
          · replace h := bGT h hb20
            refine QW.seq ?_
            refine QW.region (Nat.zero_le _) (PW.regT (by kernel_rfl) ?_)
            refine XK.st (some 77) rfl rfl (sf_bld (v := .agg ((((Arr.rep 32 (0 : UInt8)).1.map byteD).map PV.d) ++ ([.full (([] : (List Link)).map eLink)]))) rfl TT.bldA_91 (build_of rfl fill_nil) ?_)
            refine XK.st none rfl rfl (sf_stV (c := ((((Arr.rep 32 (0 : UInt8)).1.map byteD).map PV.d) ++ ([.full (([] : (List Link)).map eLink)]))) (l' := ((((Arr.rep 32 (0 : UInt8)).1.map byteD).map PV.d) ++ ([.full (([] : (List Link)).map eLink)]))) rfl TT.tyA_91 rfl rfl rfl rfl rfl (len_app (b := 1) (len_map2 _) rfl rfl) (le_of_len (len_app (b := 1) (len_map2 _) rfl rfl) (Nat.le_of_ble_eq_true rfl)) (spl_same ((len_app (b := 1) (len_map2 _) rfl rfl).trans (len_app (b := 1) (len_map2 _) rfl rfl).symm)) ?_)
            refine XK.st (some 3) rfl rfl (sf_assign (v := .d (.val (.int .i64 (6)))) rfl rfl ?_)
            refine XK.nil (nrm ?_)
            refine QW.ret (Nat.zero_le _) (thR ?_)
            obtain rfl := sG h
            exact Ends.more (.inr rfl) rfl (ps := [.agg ((((Arr.rep 32 (0 : UInt8)).1.map byteD).map PV.d) ++ ([.full (([] : (List Link)).map eLink)])), .d (.val (.int .i64 (6)))]) (And.intro (ResIs.cell rfl rfl TT.tyA_91 (ldv_whole (len_app (b := 1) (len_map2 _) rfl rfl) (by decide))) (And.intro (ResIs.tmp rfl) trivial)) (by simp only [PV.toD, PV.toDs, toDs_appS, toDs_map, Option.bind_some, Option.map_some, cWitness] <;> rfl) rfl
          · replace h := bGF h hb20
            refine QW.skip (Nat.zero_le _) (nrm ?_)
            refine QW.seq ?_
            refine QW.region (Nat.zero_le _) (PW.regT (by kernel_rfl) ?_)
            refine XK.as (some 78) rfl rfl (sf_ldV (v := .agg (((v6_0_2.1.map byteD).map PV.d) ++ ([.own 2 (v6_1.map eLink)]))) rfl TT.tyA_91 rfl rfl (ldv_whole (len_app (b := 1) (len_map2 _) rfl rfl) (by decide)) ⟨.d (.agg (cWitness (⟨v6_0_2, v6_1⟩ : Witness))), (Imp.toD (toD_agg (toDs_app toDs_map rfl))), ?_⟩)
            refine XK.st none rfl rfl (sf_stV (c := (((v6_0_2.1.map byteD).map PV.d) ++ ([.d (.slice (v6_1.map eLink))]))) (l' := (((v6_0_2.1.map byteD).map PV.d) ++ ([.d (.slice (v6_1.map eLink))]))) rfl TT.tyA_91 rfl rfl rfl rfl (show (cWitness (⟨v6_0_2, v6_1⟩ : Witness)).map PV.d = _ by simp only [cWitness, List.map_append]; rfl) (len_app (b := 1) (len_map2 _) rfl rfl) (le_of_len (len_app (b := 1) (len_map2 _) rfl rfl) (Nat.le_of_ble_eq_true rfl)) (spl_same ((len_app (b := 1) (len_map2 _) rfl rfl).trans (len_app (b := 1) (len_map2 _) rfl rfl).symm)) ?_)
            refine XK.st (some 3) rfl rfl (sf_assign (v := .d (.val (.int .i64 (0)))) rfl rfl ?_)
            refine XK.nil (nrm ?_)
            refine QW.ret (Nat.zero_le _) ?_
            obtain rfl := sG h
            exact Ends.more (.inr rfl) rfl (ps := [.agg (((v6_0_2.1.map byteD).map PV.d) ++ ([.d (.slice (v6_1.map eLink))])), .d (.val (.int .i64 (0)))]) (And.intro (ResIs.cell rfl rfl TT.tyA_91 (ldv_whole (len_app (b := 1) (len_map2 _) rfl rfl) (by decide))) (And.intro (ResIs.tmp rfl) trivial)) (by simp only [PV.toD, PV.toDs, toDs_appS, toDs_map, Option.bind_some, Option.map_some, cWitness] <;> rfl) rfl

inductive C_slices_Equal_api_Proof_string where
  | S
  | L1 (v13 : Int)

noncomputable def step_slices_Equal_api_Proof_string (v0 : (List (List UInt8))) (v1 : (List (List UInt8))) : C_slices_Equal_api_Proof_string → Option (C_slices_Equal_api_Proof_string ⊕ Bool)
  | .S =>
    (bif (!decide ((v0.length : Int) = (v1.length : Int))) then
    some (.inr false)
    else
    some (.inl (.L1 (0))))
  | .L1 v13 =>
    (bif (decide (v13 < (v0.length : Int))) then
    gO (0 ≤ v13 ∧ v13 < (v0.length : Int)) (
    gO (0 ≤ v13 ∧ v13 < (v1.length : Int)) (
    (bif (!((idx v0 v13) == (idx v1 v13))) then
    some (.inr false)
    else
    gO (inI (v13 + (1 : Int))) (
    some (.inl (.L1 (v13 + (1 : Int))))))))
    else
    some (.inr true))

noncomputable def g_slices_Equal_api_Proof_string (v0 : (List (List UInt8))) (v1 : (List (List UInt8))) : Option Bool := theC (step_slices_Equal_api_Proof_string v0 v1) .S

set_option maxRecDepth 20000 in
set_option maxHeartbeats 4000000 in
theorem sim_slices_Equal_api_Proof_string (v0 : (List (List UInt8))) (v1 : (List (List UInt8))) (r : Bool) (h : g_slices_Equal_api_Proof_string v0 v1 = some r) : Fun Try.prog 111 [.slice (v0.map eS), .slice (v1.map eS)] (.val (.bool r)) := by
  refine Fun.of_bodyQ Try.func111 rfl (by simp [Try.ntmps111]) ?_
  rw [Try.ntmps111, TT.res_111]
  refine QW.view (s' := ⟨tab [(0, .d (.slice (v0.map eS))), (1, .d (.slice (v1.map eS)))], tabH [], 0, []⟩) (View.init (by rfl)) (Nat.zero_le _) ?_
  replace h := theC_get h
  obtain ⟨_, h⟩ := h
  obtain ⟨k0, rfl, h9⟩ := run_succ h; replace h := h9; clear h9
  refine QW.seq ?_
  refine QW.region (Nat.zero_le _) (PW.regT (by kernel_rfl) ?_)
  refine XK.st (some 4) rfl rfl (sf_assign (v := .d (.val (.bool false))) rfl rfl ?_)
  refine XK.nil (nrm ?_)
  refine QW.seq ?_
  refine QW.seq ?_
  refine QW.region (Nat.zero_le _) (PW.regT (by kernel_rfl) ?_)
  refine XK.st (some 6) rfl rfl (sf_move (v := .d (.slice (v0.map eS))) rfl rfl ?_)
  refine XK.st (some 7) rfl rfl (sf_lenL (en := eS) (l := v0) rfl TT.under_94 rfl ?_)
  refine XK.st (some 8) rfl rfl (sf_move (v := .d (.slice (v1.map eS))) rfl rfl ?_)
  refine XK.st (some 9) rfl rfl (sf_lenL (en := eS) (l := v1) rfl TT.under_94 rfl ?_)
  refine XK.st (some 10) rfl rfl (sf_ne (a := (v0.length : Int)) (b := (v1.length : Int)) rfl rfl rfl ?_)
  refine XK.nil (nrm ?_)
  refine QW.cond (t := (!decide ((v0.length : Int) = (v1.length : Int)))) rfl (Nat.zero_le _) (fun hb1 => ?_) (fun hb1 => ?_)
  · replace h := bGT h hb1
    refine QW.seq ?_
    refine QW.region (Nat.zero_le _) (PW.regT (by kernel_rfl) ?_)
    refine XK.st (some 4) rfl rfl (sf_assign (v := .d (.val (.bool false))) rfl rfl ?_)
    refine XK.nil (nrm ?_)
    refine QW.ret (Nat.zero_le _) (thR ?_)
    obtain rfl := sG h
    exact Ends.one (.inr rfl) rfl (ResIs.tmp rfl) rfl rfl
  · replace h := bGF h hb1
    refine QW.skip (Nat.zero_le _) (nrm ?_)
    refine QW.seq ?_
    refine QW.seq ?_
    refine QW.region (Nat.zero_le _) (PW.regT (by kernel_rfl) ?_)
    refine XK.st (some 11) rfl rfl (sf_move (v := .d (.slice (v0.map eS))) rfl rfl ?_)
    refine XK.st (some 12) rfl rfl (sf_lenL (en := eS) (l := v0) rfl TT.under_94 rfl ?_)
    refine XK.st (some 13) rfl rfl (sf_move (v := .d (.val (.int .i64 (0)))) rfl rfl ?_)
    refine XK.nil (nrm ?_)
    refine QW.block ?_
    refine QW.loop (fun k σ => ∃ v13 : Int, k ≤ k0 ∧ run (step_slices_Equal_api_Proof_string v0 v1) k (.L1 v13) = some r ∧ σ = ⟨tab [(0, .d (.slice (v0.map eS))), (1, .d (.slice (v1.map eS))), (12, .d (.val (.int .i64 (v0.length : Int)))), (13, .d (.val (.int .i64 v13)))], tabH [], 0, []⟩) k0 (Nat.zero_le _) ⟨⟨tab [(0, .d (.slice (v0.map eS))), (1, .d (.slice (v1.map eS))), (12, .d (.val (.int .i64 (v0.length : Int)))), (13, .d (.val (.int .i64 (0))))], tabH [], 0, []⟩, View.mk 0 [] _ _ _ rfl rfl (by decide) (And.intro (Imp.of_eq rfl) (And.intro (Imp.of_eq rfl) (And.intro (Imp.of_eq rfl) (And.intro (Imp.of_eq rfl) trivial)))) trivial rfl (Nat.zero_le _) rfl, 0, Nat.le_refl _, jG h, rfl⟩ ?_
    rintro k2s _ ⟨v13, k2h, h, rfl⟩
    obtain ⟨k2, rfl, h9⟩ := run_succ h; replace h := h9; clear h9
    refine QW.seq ?_
    refine QW.region (Nat.zero_le _) (PW.regT (by kernel_rfl) ?_)
    refine XK.st (some 14) rfl rfl (sf_lss (a := v13) (b := (v0.length : Int)) rfl rfl rfl ?_)
    refine XK.nil (nrm ?_)
    refine QW.seq ?_
    refine QW.cond (t := (decide (v13 < (v0.length : Int)))) rfl (Nat.zero_le _) (fun hb3 => ?_) (fun hb3 => ?_)
    · replace h := bGT h hb3
      refine QW.skip (Nat.zero_le _) (nrm ?_)
      refine QW.seq ?_
      refine QW.block ?_
      refine QW.seq ?_
      refine QW.region (Nat.zero_le _) (PW.regT (by kernel_rfl) ?_)
      refine XK.st (some 15) rfl rfl (sf_move (v := .d (.val (.int .i64 v13))) rfl rfl ?_)
      refine XK.st (some 5) rfl rfl (sf_assign (v := .d (.val (.int .i64 v13))) rfl rfl ?_)
      refine XK.nil (nrm ?_)
      refine QW.seq ?_
      refine QW.region (Nat.zero_le _) (PW.regQ (id := 6) mixedX (M := _) rfl (by kernel_rfl) ?_)
      refine RQ.st (some 16) rfl rfl (sf_move (v := .d (.slice (v0.map eS))) rfl rfl ⟨⟨rfl, rfl⟩, ?_⟩)
      refine RQ.st (some 17) rfl rfl (sf_move (v := .d (.val (.int .i64 v13))) rfl rfl ⟨⟨rfl, rfl⟩, ?_⟩)
      obtain ⟨c4, h⟩ := gG h
      refine RQ.st (some 18) rfl rfl (sf_idxA (l := v0) (i := v13) rfl TT.slcA_94 lay_S rfl rfl c4 ⟨⟨rfl, rfl⟩, ?_⟩)
      refine RQ.st (some 19) rfl rfl (sf_ldC (d := .val (sV (idx v0 v13))) rfl TT.tyA_9 rfl (LdC.one) ⟨⟨rfl, rfl⟩, ?_⟩)
      refine RQ.st (some 20) rfl rfl (sf_move (v := .d (.slice (v1.map eS))) rfl rfl ⟨⟨rfl, rfl⟩, ?_⟩)
      refine RQ.st (some 21) rfl rfl (sf_move (v := .d (.val (.int .i64 v13))) rfl rfl ⟨⟨rfl, rfl⟩, ?_⟩)
      obtain ⟨c5, h⟩ := gG h
      refine RQ.st (some 22) rfl rfl (sf_idxA (l := v1) (i := v13) rfl TT.slcA_94 lay_S rfl rfl c5 ⟨⟨rfl, rfl⟩, ?_⟩)
      refine RQ.st (some 23) rfl rfl (sf_ldC (d := .val (sV (idx v1 v13))) rfl TT.tyA_9 rfl (LdC.one) ⟨⟨rfl, rfl⟩, ?_⟩)
      refine RQ.st (some 24) rfl rfl (sf_sne (a := (idx v0 v13)) (b := (idx v1 v13)) rfl rfl rfl ⟨⟨rfl, rfl⟩, ?_⟩)
      refine RQ.nil (nrm ?_)
      refine QW.cond (t := (!((idx v0 v13) == (idx v1 v13)))) rfl (Nat.zero_le _) (fun hb6 => ?_) (fun hb6 => ?_)
      · replace h := bGT h hb6
        refine QW.seq ?_
        refine QW.region (Nat.zero_le _) (PW.regT (by kernel_rfl) ?_)
        refine XK.st (some 4) rfl rfl (sf_assign (v := .d (.val (.bool false))) rfl rfl ?_)
        refine XK.nil (nrm ?_)
        refine QW.ret (Nat.zero_le _) (blR (thR (thR (blR (thR ?_)))))
        obtain rfl := sG h
        exact Ends.one (.inr rfl) rfl (ResIs.tmp rfl) rfl rfl
      · replace h := bGF h hb6
        refine QW.skip (Nat.zero_le _) (blN (nrm ?_))
        refine QW.region (Nat.zero_le _) (PW.regT (by kernel_rfl) ?_)
        obtain ⟨c7, h⟩ := gG h
        refine XK.st (some 25) rfl rfl (sf_add (a := v13) (b := (1 : Int)) rfl rfl rfl c7 ?_)
        refine XK.st (some 13) rfl rfl (sf_move (v := .d (.val (.int .i64 (v13 + (1 : Int))))) rfl rfl ?_)
        refine XK.nil (nrm ?_)
        exact ⟨k2, by omega, ⟨tab [(0, .d (.slice (v0.map eS))), (1, .d (.slice (v1.map eS))), (12, .d (.val (.int .i64 (v0.length : Int)))), (13, .d (.val (.int .i64 (v13 + (1 : Int)))))], tabH [], 0, []⟩, View.mk 0 [] _ _ _ rfl rfl (by decide) (And.intro (Imp.of_eq rfl) (And.intro (Imp.of_eq rfl) (And.intro (Imp.of_eq rfl) (And.intro (Imp.of_eq rfl) trivial)))) trivial rfl (Nat.zero_le _) rfl, (v13 + (1 : Int)), by omega, jG h, rfl⟩
    · replace h := bGF h hb3
      refine QW.exit (Nat.zero_le _) (thX (thX (exE (nrm ?_))))
      refine QW.seq ?_
      refine QW.region (Nat.zero_le _) (PW.regT (by kernel_rfl) ?_)
      refine XK.st (some 4) rfl rfl (sf_assign (v := .d (.val (.bool true))) rfl rfl ?_)
      refine XK.nil (nrm ?_)
      refine QW.ret (Nat.zero_le _) ?_
      obtain rfl := sG h
      exact Ends.one (.inr rfl) rfl (ResIs.tmp rfl) rfl rfl

noncomputable def g_wire_Same_1 (x0 : Link) (y1 : Link) : Option Bool :=
    ((bif ((decide ((x0.fEpoch) = (y1.fEpoch))) == true) then g_slices_Equal_api_Proof_string (x0.fProof) (y1.fProof) else some default).bind fun (x1 : Bool) =>
    some ((decide ((x0.fEpoch) = (y1.fEpoch))) && x1))

set_option maxRecDepth 20000 in
set_option maxHeartbeats 4000000 in
theorem sim_wire_Same_1 (x0 : Link) (y1 : Link) (r : Bool) (h : g_wire_Same_1 x0 y1 = some r) : Fun Try.prog 110 [.agg (cLink x0), .agg (cLink y1)] (.val (.bool r)) := by
  refine Fun.of_bodyQ Try.func110 rfl (by simp [Try.ntmps110]) ?_
  rw [Try.ntmps110, TT.res_110]
  refine QW.view (s' := ⟨tab [(0, .d (.agg (cLink x0))), (1, .d (.agg (cLink y1)))], tabH [], 0, []⟩) (View.init (by rfl)) (Nat.zero_le _) ?_
  unfold g_wire_Same_1 at h
  refine QW.seq ?_
  refine QW.region (Nat.zero_le _) (PW.regT (by kernel_rfl) ?_)
  refine XK.fz (some 2) rfl rfl (sf_boxF (ds := cLink x0) rfl rfl rfl rfl rfl ?_)
  refine XK.fz (some 3) rfl rfl (sf_boxF (ds := cLink y1) rfl rfl rfl rfl rfl ?_)
  refine XK.st (some 4) rfl rfl (sf_assign (v := .d (.val (.bool false))) rfl rfl ?_)
  refine XK.nil (nrm ?_)
  refine QW.seq ?_
  refine QW.region (Nat.zero_le _) (PW.regT (by kernel_rfl) ?_)
  refine XK.st (some 5) rfl rfl (sf_fldC rfl TT.fldA_96_0 (by decide) rfl ?_)
  refine XK.st (some 6) rfl rfl (sf_ldC (d := .val (.int .i64 (x0.fEpoch))) rfl TT.tyA_3 rfl (LdC.one) ?_)
  refine XK.st (some 7) rfl rfl (sf_fldC rfl TT.fldA_96_0 (by decide) rfl ?_)
  refine XK.st (some 8) rfl rfl (sf_ldC (d := .val (.int .i64 (y1.fEpoch))) rfl TT.tyA_3 rfl (LdC.one) ?_)
  refine XK.st (some 9) rfl rfl (sf_eq (a := (x0.fEpoch)) (b := (y1.fEpoch)) rfl rfl rfl ?_)
  refine XK.st (some 10) rfl rfl (sf_move (v := .d (.val (.bool (decide ((x0.fEpoch) = (y1.fEpoch)))))) rfl rfl ?_)
  refine XK.gd (v := .d (.cptr ((cLink x0).drop 1))) (T := []) (some 11) rfl rfl (by repeat (first | exact trivial | refine And.intro (fun hg => by first | rfl | exact hg | exact (Bool.and_eq_true_iff.mp hg).1 | exact (Bool.and_eq_true_iff.mp (Bool.and_eq_true_iff.mp hg).1).1) ?_)) (fun hg => sf_fldC rfl TT.fldA_96_1 (by decide) rfl ⟨⟨rfl, rfl, rfl⟩, rfl, Imp.refl⟩) (fun _ _ hi => nomatch hi) ?_
  refine XK.gd (v := .d (.slice ((x0.fProof).map eS))) (T := []) (some 12) rfl rfl (by repeat (first | exact trivial | refine And.intro (fun hg => by first | rfl | exact hg | exact (Bool.and_eq_true_iff.mp hg).1 | exact (Bool.and_eq_true_iff.mp (Bool.and_eq_true_iff.mp hg).1).1) ?_)) (fun hg => sf_ldC (d := .slice ((x0.fProof).map eS)) rfl TT.tyA_94 rfl (LdC.one) ⟨⟨rfl, rfl, rfl⟩, rfl, Imp.refl⟩) (fun _ _ hi => nomatch hi) ?_
  refine XK.gd (v := .d (.cptr ((cLink y1).drop 1))) (T := []) (some 13) rfl rfl (by repeat (first | exact trivial | refine And.intro (fun hg => by first | rfl | exact hg | exact (Bool.and_eq_true_iff.mp hg).1 | exact (Bool.and_eq_true_iff.mp (Bool.and_eq_true_iff.mp hg).1).1) ?_)) (fun hg => sf_fldC rfl TT.fldA_96_1 (by decide) rfl ⟨⟨rfl, rfl, rfl⟩, rfl, Imp.refl⟩) (fun _ _ hi => nomatch hi) ?_
  refine XK.gd (v := .d (.slice ((y1.fProof).map eS))) (T := []) (some 14) rfl rfl (by repeat (first | exact trivial | refine And.intro (fun hg => by first | rfl | exact hg | exact (Bool.and_eq_true_iff.mp hg).1 | exact (Bool.and_eq_true_iff.mp (Bool.and_eq_true_iff.mp hg).1).1) ?_)) (fun hg => sf_ldC (d := .slice ((y1.fProof).map eS)) rfl TT.tyA_94 rfl (LdC.one) ⟨⟨rfl, rfl, rfl⟩, rfl, Imp.refl⟩) (fun _ _ hi => nomatch hi) ?_
  obtain ⟨x1, hx2, h⟩ := bO h
  refine XK.gd (v := .d (.val (.bool x1))) (T := []) (some 15) rfl rfl (by repeat (first | exact trivial | refine And.intro (fun hg => by first | rfl | exact hg | exact (Bool.and_eq_true_iff.mp hg).1 | exact (Bool.and_eq_true_iff.mp (Bool.and_eq_true_iff.mp hg).1).1) ?_)) (fun hg => sf_call rfl rfl TT.enters_111 rfl (sim_slices_Equal_api_Proof_string (x0.fProof) (y1.fProof) _ (bT hx2 hg)) ⟨⟨rfl, rfl, rfl⟩, rfl, Imp.refl⟩) (fun _ _ hi => nomatch hi) ?_
  refine XK.st (some 16) rfl rfl (sf_pickA rfl rfl rfl rfl (fun hb => by rw [hb]; rfl) (fun _ => rfl) ?_)
  refine XK.st (some 4) rfl rfl (sf_assign (v := .d (.val (.bool ((decide ((x0.fEpoch) = (y1.fEpoch))) && x1)))) rfl rfl ?_)
  refine XK.nil (nrm ?_)
  refine QW.ret (Nat.zero_le _) ?_
  obtain rfl := sO h
  exact Ends.one (.inr rfl) rfl (ResIs.tmp rfl) rfl rfl

inductive C_slices_EqualFunc_api_Link_api_Link_api_Link_api_Link where
  | S
  | L1 (v17 : Int)

noncomputable def step_slices_EqualFunc_api_Link_api_Link_api_Link_api_Link (v0 : (List Link)) (v1 : (List Link)) (f2 : Link → Link → Option Bool) : C_slices_EqualFunc_api_Link_api_Link_api_Link_api_Link → Option (C_slices_EqualFunc_api_Link_api_Link_api_Link_api_Link ⊕ Bool)
  | .S =>
    (bif (!decide ((v0.length : Int) = (v1.length : Int))) then
    some (.inr false)
    else
    some (.inl (.L1 (0))))
  | .L1 v17 =>
    (bif (decide (v17 < (v0.length : Int))) then
    gO (0 ≤ v17 ∧ v17 < (v0.length : Int)) (
    gO (0 ≤ v17 ∧ v17 < (v1.length : Int)) (
    ((f2 (idx v0 v17) (idx v1 v17)).bind fun (x6 : Bool) =>
    (bif (!x6) then
    some (.inr false)
    else
    gO (inI (v17 + (1 : Int))) (
    some (.inl (.L1 (v17 + (1 : Int)))))))))
    else
    some (.inr true))

noncomputable def g_slices_EqualFunc_api_Link_api_Link_api_Link_api_Link (v0 : (List Link)) (v1 : (List Link)) (f2 : Link → Link → Option Bool) : Option Bool := theC (step_slices_EqualFunc_api_Link_api_Link_api_Link_api_Link v0 v1 f2) .S

set_option maxRecDepth 20000 in
set_option maxHeartbeats 4000000 in
theorem sim_slices_EqualFunc_api_Link_api_Link_api_Link_api_Link (v0 : (List Link)) (v1 : (List Link)) (f2 : Link → Link → Option Bool) (fn2 : Nat) (cp2 : List D) (he2 : entersB Try.prog fn2 = true) (hf2 : ∀ y0 y1 r, f2 y0 y1 = some r → Fun Try.prog fn2 ([.agg (cLink y0), .agg (cLink y1)] ++ cp2) (.val (.bool r))) (r : Bool) (h : g_slices_EqualFunc_api_Link_api_Link_api_Link_api_Link v0 v1 f2 = some r) : Fun Try.prog 112 [.slice (v0.map eLink), .slice (v1.map eLink), .clo fn2 cp2] (.val (.bool r)) := by
  refine Fun.of_bodyQ Try.func112 rfl (by simp [Try.ntmps112]) ?_
  rw [Try.ntmps112, TT.res_112]
  refine QW.view (s' := ⟨tab [(0, .d (.slice (v0.map eLink))), (1, .d (.slice (v1.map eLink))), (2, .d (.clo fn2 cp2))], tabH [], 0, []⟩) (View.init (by rfl)) (Nat.zero_le _) ?_
  replace h := theC_get h
  obtain ⟨_, h⟩ := h
  obtain ⟨k0, rfl, h9⟩ := run_succ h; replace h := h9; clear h9
  refine QW.seq ?_
  refine QW.region (Nat.zero_le _) (PW.regT (by kernel_rfl) ?_)
  refine XK.st (some 6) rfl rfl (sf_assign (v := .d (.val (.bool false))) rfl rfl ?_)
  refine XK.nil (nrm ?_)
  refine QW.seq ?_
  refine QW.seq ?_
  refine QW.region (Nat.zero_le _) (PW.regT (by kernel_rfl) ?_)
  refine XK.st (some 10) rfl rfl (sf_move (v := .d (.slice (v0.map eLink))) rfl rfl ?_)
  refine XK.st (some 11) rfl rfl (sf_lenL (en := eLink) (l := v0) rfl TT.under_89 rfl ?_)
  refine XK.st (some 12) rfl rfl (sf_move (v := .d (.slice (v1.map eLink))) rfl rfl ?_)
  refine XK.st (some 13) rfl rfl (sf_lenL (en := eLink) (l := v1) rfl TT.under_89 rfl ?_)
  refine XK.st (some 14) rfl rfl (sf_ne (a := (v0.length : Int)) (b := (v1.length : Int)) rfl rfl rfl ?_)
  refine XK.nil (nrm ?_)
  refine QW.cond (t := (!decide ((v0.length : Int) = (v1.length : Int)))) rfl (Nat.zero_le _) (fun hb1 => ?_) (fun hb1 => ?_)
  · replace h := bGT h hb1
    refine QW.seq ?_
    refine QW.region (Nat.zero_le _) (PW.regT (by kernel_rfl) ?_)
    refine XK.st (some 6) rfl rfl (sf_assign (v := .d (.val (.bool false))) rfl rfl ?_)
    refine XK.nil (nrm ?_)
    refine QW.ret (Nat.zero_le _) (thR ?_)
    obtain rfl := sG h
    exact Ends.one (.inr rfl) rfl (ResIs.tmp rfl) rfl rfl
  · replace h := bGF h hb1
    refine QW.skip (Nat.zero_le _) (nrm ?_)
    refine QW.seq ?_
    refine QW.seq ?_
    refine QW.region (Nat.zero_le _) (PW.regT (by kernel_rfl) ?_)
    refine XK.st (some 15) rfl rfl (sf_move (v := .d (.slice (v0.map eLink))) rfl rfl ?_)
    refine XK.st (some 16) rfl rfl (sf_lenL (en := eLink) (l := v0) rfl TT.under_89 rfl ?_)
    refine XK.st (some 17) rfl rfl (sf_move (v := .d (.val (.int .i64 (0)))) rfl rfl ?_)
    refine XK.nil (nrm ?_)
    refine QW.block ?_
    refine QW.loop (fun k σ => ∃ v17 : Int, k ≤ k0 ∧ run (step_slices_EqualFunc_api_Link_api_Link_api_Link_api_Link v0 v1 f2) k (.L1 v17) = some r ∧ σ = ⟨tab [(1, .d (.slice (v1.map eLink))), (2, .d (.clo fn2 cp2)), (15, .d (.slice (v0.map eLink))), (16, .d (.val (.int .i64 (v0.length : Int)))), (17, .d (.val (.int .i64 v17)))], tabH [], 0, []⟩) k0 (Nat.zero_le _) ⟨⟨tab [(1, .d (.slice (v1.map eLink))), (2, .d (.clo fn2 cp2)), (15, .d (.slice (v0.map eLink))), (16, .d (.val (.int .i64 (v0.length : Int)))), (17, .d (.val (.int .i64 (0))))], tabH [], 0, []⟩, View.mk 0 [] _ _ _ rfl rfl (by decide) (And.intro (Imp.of_eq rfl) (And.intro (Imp.of_eq rfl) (And.intro (Imp.of_eq rfl) (And.intro (Imp.of_eq rfl) (And.intro (Imp.of_eq rfl) trivial))))) trivial rfl (Nat.zero_le _) rfl, 0, Nat.le_refl _, jG h, rfl⟩ ?_
    rintro k2s _ ⟨v17, k2h, h, rfl⟩
    obtain ⟨k2, rfl, h9⟩ := run_succ h; replace h := h9; clear h9
    refine QW.seq ?_
    refine QW.region (Nat.zero_le _) (PW.regT (by kernel_rfl) ?_)
    refine XK.st (some 18) rfl rfl (sf_lss (a := v17) (b := (v0.length : Int)) rfl rfl rfl ?_)
    refine XK.nil (nrm ?_)
    refine QW.seq ?_
    refine QW.cond (t := (decide (v17 < (v0.length : Int)))) rfl (Nat.zero_le _) (fun hb3 => ?_) (fun hb3 => ?_)
    · replace h := bGT h hb3
      refine QW.skip (Nat.zero_le _) (nrm ?_)
      refine QW.seq ?_
      refine QW.block ?_
      refine QW.seq ?_
      refine QW.region (Nat.zero_le _) (PW.regT (by kernel_rfl) ?_)
      refine XK.st (some 19) rfl rfl (sf_move (v := .d (.val (.int .i64 v17))) rfl rfl ?_)
      obtain ⟨c4, h⟩ := gG h
      refine XK.st (some 20) rfl rfl (sf_idxA (l := v0) (i := v17) rfl TT.slcA_89 lay_Link rfl rfl c4 ?_)
      refine XK.st (some 21) rfl rfl (sf_ldC (d := .agg (cLink (idx v0 v17))) rfl TT.tyA_96 rfl (⟨by simp [cLink], rfl⟩) ?_)
      refine XK.st (some 8) rfl rfl (sf_alloc (l := [.d (.val (.int .i64 (0))), .full (([] : (List (List UInt8))).map eS)]) rfl TT.zeroA_96 rfl rfl ?_)
      refine XK.st (some 7) rfl rfl (sf_assign (v := .d (.val (.int .i64 v17))) rfl rfl ?_)
      refine XK.st none rfl rfl (sf_stV (l' := [.d (.val (.int .i64 ((idx v0 v17).fEpoch))), .d (.slice (((idx v0 v17).fProof).map eS))]) rfl TT.tyA_96 rfl rfl rfl rfl rfl rfl (by simp) rfl ?_)
      refine XK.nil (nrm ?_)
      refine QW.seq ?_
      refine QW.region (Nat.zero_le _) (PW.regT (by kernel_rfl) ?_)
      refine XK.st (some 22) rfl rfl (sf_move (v := .d (.slice (v1.map eLink))) rfl rfl ?_)
      refine XK.st (some 23) rfl rfl (sf_move (v := .d (.val (.int .i64 v17))) rfl rfl ?_)
      obtain ⟨c5, h⟩ := gG h
      refine XK.st (some 24) rfl rfl (sf_idxA (l := v1) (i := v17) rfl TT.slcA_89 lay_Link rfl rfl c5 ?_)
      refine XK.st (some 25) rfl rfl (sf_ldC (d := .agg (cLink (idx v1 v17))) rfl TT.tyA_96 rfl (⟨by simp [cLink], rfl⟩) ?_)
      refine XK.st (some 9) rfl rfl (sf_alloc (l := [.d (.val (.int .i64 (0))), .full (([] : (List (List UInt8))).map eS)]) rfl TT.zeroA_96 rfl rfl ?_)
      refine XK.st none rfl rfl (sf_stV (l' := [.d (.val (.int .i64 ((idx v1 v17).fEpoch))), .d (.slice (((idx v1 v17).fProof).map eS))]) rfl TT.tyA_96 rfl rfl rfl rfl rfl rfl (by simp) rfl ?_)
      refine XK.nil (nrm ?_)
      refine QW.seq ?_
      refine QW.region (Nat.zero_le _) (PW.regT (by kernel_rfl) ?_)
      refine XK.st (some 26) rfl rfl (sf_move (v := .d (.clo fn2 cp2)) rfl rfl ?_)
      refine XK.as (some 27) rfl rfl (sf_ldV (v := .agg [.d (.val (.int .i64 ((idx v0 v17).fEpoch))), .d (.slice (((idx v0 v17).fProof).map eS))]) rfl TT.tyA_96 rfl rfl ⟨⟨by simp, by simp⟩, rfl⟩ ⟨.d (.agg (cLink (idx v0 v17))), (Imp.toD rfl), ?_⟩)
      refine XK.as (some 28) rfl rfl (sf_ldV (v := .agg [.d (.val (.int .i64 ((idx v1 v17).fEpoch))), .d (.slice (((idx v1 v17).fProof).map eS))]) rfl TT.tyA_96 rfl rfl ⟨⟨by simp, by simp⟩, rfl⟩ ⟨.d (.agg (cLink (idx v1 v17))), (Imp.toD rfl), ?_⟩)
      obtain ⟨x6, hx7, h⟩ := bG h
      refine XK.st (some 29) rfl rfl (sf_clo rfl rfl rfl he2 rfl (hf2 (idx v0 v17) (idx v1 v17) _ hx7) ?_)
      refine XK.st (some 30) rfl rfl (sf_not rfl rfl ?_)
      refine XK.nil (nrm ?_)
      refine QW.cond (t := (!x6)) rfl (Nat.zero_le _) (fun hb8 => ?_) (fun hb8 => ?_)
      · replace h := bGT h hb8
        refine QW.seq ?_
        refine QW.region (Nat.zero_le _) (PW.regT (by kernel_rfl) ?_)
        refine XK.st (some 6) rfl rfl (sf_assign (v := .d (.val (.bool false))) rfl rfl ?_)
        refine XK.nil (nrm ?_)
        refine QW.ret (Nat.zero_le _) (blR (thR (thR (blR (thR ?_)))))
        obtain rfl := sG h
        exact Ends.one (.inr rfl) rfl (ResIs.tmp rfl) rfl rfl
      · replace h := bGF h hb8
        refine QW.skip (Nat.zero_le _) (blN (nrm ?_))
        refine QW.region (Nat.zero_le _) (PW.regT (by kernel_rfl) ?_)
        obtain ⟨c9, h⟩ := gG h
        refine XK.st (some 31) rfl rfl (sf_add (a := v17) (b := (1 : Int)) rfl rfl rfl c9 ?_)
        refine XK.st (some 17) rfl rfl (sf_move (v := .d (.val (.int .i64 (v17 + (1 : Int))))) rfl rfl ?_)
        refine XK.nil (nrm ?_)
        exact ⟨k2, by omega, ⟨tab [(1, .d (.slice (v1.map eLink))), (2, .d (.clo fn2 cp2)), (15, .d (.slice (v0.map eLink))), (16, .d (.val (.int .i64 (v0.length : Int)))), (17, .d (.val (.int .i64 (v17 + (1 : Int)))))], tabH [], 0, []⟩, View.mk 0 [] _ _ _ rfl rfl (by decide) (And.intro (Imp.of_eq rfl) (And.intro (Imp.of_eq rfl) (And.intro (Imp.of_eq rfl) (And.intro (Imp.of_eq rfl) (And.intro (Imp.of_eq rfl) trivial))))) trivial rfl (Nat.zero_le _) rfl, (v17 + (1 : Int)), by omega, jG h, rfl⟩
    · replace h := bGF h hb3
      refine QW.exit (Nat.zero_le _) (thX (thX (exE (nrm ?_))))
      refine QW.seq ?_
      refine QW.region (Nat.zero_le _) (PW.regT (by kernel_rfl) ?_)
      refine XK.st (some 6) rfl rfl (sf_assign (v := .d (.val (.bool true))) rfl rfl ?_)
      refine XK.nil (nrm ?_)
      refine QW.ret (Nat.zero_le _) ?_
      obtain rfl := sG h
      exact Ends.one (.inr rfl) rfl (ResIs.tmp rfl) rfl rfl

noncomputable def g_wire_Same (a0 : Witness) (b1 : Witness) : Option Bool :=
    ((bif (((a0.fKey).1 == (b1.fKey).1) == true) then g_slices_EqualFunc_api_Link_api_Link_api_Link_api_Link (a0.fLinks) (b1.fLinks) (fun y0 y1 => g_wire_Same_1 y0 y1) else some default).bind fun (x1 : Bool) =>
    some (((a0.fKey).1 == (b1.fKey).1) && x1))

set_option maxRecDepth 20000 in
set_option maxHeartbeats 4000000 in
theorem sim_wire_Same (a0 : Witness) (b1 : Witness) (r : Bool) (h : g_wire_Same a0 b1 = some r) : Fun Try.prog 76 [.agg (cWitness a0), .agg (cWitness b1)] (.val (.bool r)) := by
  refine Fun.of_bodyQ Try.func76 rfl (by simp [Try.ntmps76]) ?_
  rw [Try.ntmps76, TT.res_76]
  refine QW.view (s' := ⟨tab [(0, .d (.agg (cWitness a0))), (1, .d (.agg (cWitness b1)))], tabH [], 0, []⟩) (View.init (by rfl)) (Nat.zero_le _) ?_
  unfold g_wire_Same at h
  refine QW.seq ?_
  refine QW.region (Nat.zero_le _) (PW.regT (by kernel_rfl) ?_)
  refine XK.fz (some 2) rfl rfl (sf_boxF (ds := cWitness a0) rfl rfl rfl rfl toDs_map ?_)
  refine XK.fz (some 3) rfl rfl (sf_boxF (ds := cWitness b1) rfl rfl rfl rfl toDs_map ?_)
  refine XK.st (some 4) rfl rfl (sf_assign (v := .d (.val (.bool false))) rfl rfl ?_)
  refine XK.nil (nrm ?_)
  refine QW.seq ?_
  refine QW.region (Nat.zero_le _) (PW.regT (by kernel_rfl) ?_)
  refine XK.st (some 5) rfl rfl (sf_assign (v := .d (.clo 110 [])) rfl rfl ?_)
  refine XK.nil (nrm ?_)
  refine QW.seq ?_
  refine QW.region (Nat.zero_le _) (PW.regT (by kernel_rfl) ?_)
  refine XK.st (some 6) rfl rfl (sf_fldC rfl TT.fldA_91_0 (by decide) rfl ?_)
  refine XK.st (some 7) rfl rfl (sf_ldC (d := .agg ((a0.fKey).1.map byteD)) rfl TT.tyA_29 rfl (ldc_Witness_0 _) ?_)
  refine XK.st (some 8) rfl rfl (sf_fldC rfl TT.fldA_91_0 (by decide) rfl ?_)
  refine XK.st (some 9) rfl rfl (sf_ldC (d := .agg ((b1.fKey).1.map byteD)) rfl TT.tyA_29 rfl (ldc_Witness_0 _) ?_)
  refine XK.st (some 10) rfl rfl (sf_arreq (p := a0.fKey) (q := b1.fKey) rfl TT.arrB_29_32 rfl rfl ?_)
  refine XK.st (some 11) rfl rfl (sf_move (v := .d (.val (.bool ((a0.fKey).1 == (b1.fKey).1)))) rfl rfl ?_)
  refine XK.gd (v := .d (.cptr ((cWitness a0).drop 32))) (T := []) (some 12) rfl rfl (by repeat (first | exact trivial | refine And.intro (fun hg => by first | rfl | exact hg | exact (Bool.and_eq_true_iff.mp hg).1 | exact (Bool.and_eq_true_iff.mp (Bool.and_eq_true_iff.mp hg).1).1) ?_)) (fun hg => sf_fldC rfl TT.fldA_91_1 (by decide) rfl ⟨⟨rfl, rfl, rfl⟩, rfl, Imp.refl⟩) (fun _ _ hi => nomatch hi) ?_
  refine XK.gd (v := .d (.slice ((a0.fLinks).map eLink))) (T := []) (some 13) rfl rfl (by repeat (first | exact trivial | refine And.intro (fun hg => by first | rfl | exact hg | exact (Bool.and_eq_true_iff.mp hg).1 | exact (Bool.and_eq_true_iff.mp (Bool.and_eq_true_iff.mp hg).1).1) ?_)) (fun hg => sf_ldC (d := .slice ((a0.fLinks).map eLink)) rfl TT.tyA_89 rfl (ldc_Witness_1 _) ⟨⟨rfl, rfl, rfl⟩, rfl, Imp.refl⟩) (fun _ _ hi => nomatch hi) ?_
  refine XK.gd (v := .d (.cptr ((cWitness b1).drop 32))) (T := []) (some 14) rfl rfl (by repeat (first | exact trivial | refine And.intro (fun hg => by first | rfl | exact hg | exact (Bool.and_eq_true_iff.mp hg).1 | exact (Bool.and_eq_true_iff.mp (Bool.and_eq_true_iff.mp hg).1).1) ?_)) (fun hg => sf_fldC rfl TT.fldA_91_1 (by decide) rfl ⟨⟨rfl, rfl, rfl⟩, rfl, Imp.refl⟩) (fun _ _ hi => nomatch hi) ?_
  refine XK.gd (v := .d (.slice ((b1.fLinks).map eLink))) (T := []) (some 15) rfl rfl (by repeat (first | exact trivial | refine And.intro (fun hg => by first | rfl | exact hg | exact (Bool.and_eq_true_iff.mp hg).1 | exact (Bool.and_eq_true_iff.mp (Bool.and_eq_true_iff.mp hg).1).1) ?_)) (fun hg => sf_ldC (d := .slice ((b1.fLinks).map eLink)) rfl TT.tyA_89 rfl (ldc_Witness_1 _) ⟨⟨rfl, rfl, rfl⟩, rfl, Imp.refl⟩) (fun _ _ hi => nomatch hi) ?_
  refine XK.gd (v := .d (.clo 110 [])) (T := []) (some 16) rfl rfl (by repeat (first | exact trivial | refine And.intro (fun hg => by first | rfl | exact hg | exact (Bool.and_eq_true_iff.mp hg).1 | exact (Bool.and_eq_true_iff.mp (Bool.and_eq_true_iff.mp hg).1).1) ?_)) (fun hg => sf_move (v := .d (.clo 110 [])) rfl rfl ⟨⟨rfl, rfl, rfl⟩, rfl, Imp.refl⟩) (fun _ _ hi => nomatch hi) ?_
  obtain ⟨x1, hx2, h⟩ := bO h
  refine XK.gd (v := .d (.val (.bool x1))) (T := []) (some 17) rfl rfl (by repeat (first | exact trivial | refine And.intro (fun hg => by first | rfl | exact hg | exact (Bool.and_eq_true_iff.mp hg).1 | exact (Bool.and_eq_true_iff.mp (Bool.and_eq_true_iff.mp hg).1).1) ?_)) (fun hg => sf_call rfl rfl TT.enters_112 rfl (sim_slices_EqualFunc_api_Link_api_Link_api_Link_api_Link (a0.fLinks) (b1.fLinks) (fun y0 y1 => g_wire_Same_1 y0 y1) 110 [] TT.enters_110 (fun y0 y1 _ h => sim_wire_Same_1 y0 y1 _ h) _ (bT hx2 hg)) ⟨⟨rfl, rfl, rfl⟩, rfl, Imp.refl⟩) (fun _ _ hi => nomatch hi) ?_
  refine XK.st (some 18) rfl rfl (sf_pickA rfl rfl rfl rfl (fun hb => by rw [hb]; rfl) (fun _ => rfl) ?_)
  refine XK.st (some 4) rfl rfl (sf_assign (v := .d (.val (.bool (((a0.fKey).1 == (b1.fKey).1) && x1)))) rfl rfl ?_)
  refine XK.nil (nrm ?_)
  refine QW.ret (Nat.zero_le _) ?_
  obtain rfl := sO h
  exact Ends.one (.inr rfl) rfl (ResIs.tmp rfl) rfl rfl

inductive C_wire_Size where
  | S
  | L1 (v4_2 : Int) (v5_2 : Int) (v13 : Int)
  | L2 (v4_6 : Int) (v5_6 : Int) (v13_5 : Int) (v18_4 : (List (List UInt8))) (v19_4 : Int) (v20_3 : Int)

noncomputable def step_wire_Size (w0 : Witness) : C_wire_Size → Option (C_wire_Size ⊕ (Int × Int))
  | .S =>
    some (.inl (.L1 (0) (0) (0)))
  | .L1 v4_2 v5_2 v13 =>
    (bif (decide (v13 < ((w0.fLinks).length : Int))) then
    gO (0 ≤ v13 ∧ v13 < ((w0.fLinks).length : Int)) (
    some (.inl (.L2 v4_2 v5_2 v13 ((idx (w0.fLinks) v13).fProof) (((idx (w0.fLinks) v13).fProof).length : Int) (0))))
    else
    some (.inr (v4_2, v5_2)))
  | .L2 v4_6 v5_6 v13_5 v18_4 v19_4 v20_3 =>
    (bif (decide (v20_3 < v19_4)) then
    gO (0 ≤ v20_3 ∧ v20_3 < (v18_4.length : Int)) (
    gO (inI (v4_6 + (1 : Int))) (
    gO (inI (v5_6 + ((idx v18_4 v20_3).length : Int))) (
    gO (inI (v20_3 + (1 : Int))) (
    some (.inl (.L2 (v4_6 + (1 : Int)) (v5_6 + ((idx v18_4 v20_3).length : Int)) v13_5 v18_4 v19_4 (v20_3 + (1 : Int))))))))
    else
    gO (inI (v13_5 + (1 : Int))) (
    some (.inl (.L1 v4_6 v5_6 (v13_5 + (1 : Int))))))

noncomputable def g_wire_Size (w0 : Witness) : Option (Int × Int) := theC (step_wire_Size w0) .S

set_option maxRecDepth 20000 in
set_option maxHeartbeats 4000000 in
theorem sim_wire_Size (w0 : Witness) (r : (Int × Int)) (h : g_wire_Size w0 = some r) : Fun Try.prog 74 [.agg (cWitness w0)] (.tuple [.val (.int .i64 (r.1)), .val (.int .i64 (r.2))]) := by
  refine Fun.of_bodyQ Try.func74 rfl (by simp [Try.ntmps74]) ?_
  rw [Try.ntmps74, TT.res_74]
  refine QW.view (s' := ⟨tab [(0, .d (.agg (cWitness w0)))], tabH [], 0, []⟩) (View.init (by rfl)) (Nat.zero_le _) ?_
  replace h := theC_get h
  obtain ⟨_, h⟩ := h
  obtain ⟨k0, rfl, h9⟩ := run_succ h; replace h := h9; clear h9
  refine QW.seq ?_
  refine QW.region (Nat.zero_le _) (PW.regT (by kernel_rfl) ?_)
  refine XK.fz (some 1) rfl rfl (sf_boxF (ds := cWitness w0) rfl rfl rfl rfl toDs_map ?_)
  refine XK.st (some 2) rfl rfl (sf_assign (v := .d (.val (.int .i64 (0)))) rfl rfl ?_)
  refine XK.st (some 3) rfl rfl (sf_assign (v := .d (.val (.int .i64 (0)))) rfl rfl ?_)
  refine XK.nil (nrm ?_)
  refine QW.seq ?_
  refine QW.region (Nat.zero_le _) (PW.regT (by kernel_rfl) ?_)
  refine XK.st (some 4) rfl rfl (sf_assign (v := .d (.val (.int .i64 (0)))) rfl rfl ?_)
  refine XK.st (some 5) rfl rfl (sf_assign (v := .d (.val (.int .i64 (0)))) rfl rfl ?_)
  refine XK.nil (nrm ?_)
  refine QW.seq ?_
  refine QW.seq ?_
  refine QW.region (Nat.zero_le _) (PW.regT (by kernel_rfl) ?_)
  refine XK.st (some 10) rfl rfl (sf_fldC rfl TT.fldA_91_1 (by decide) rfl ?_)
  refine XK.st (some 11) rfl rfl (sf_ldC (d := .slice ((w0.fLinks).map eLink)) rfl TT.tyA_89 rfl (ldc_Witness_1 _) ?_)
  refine XK.st (some 12) rfl rfl (sf_lenL (en := eLink) (l := w0.fLinks) rfl TT.under_89 rfl ?_)
  refine XK.st (some 13) rfl rfl (sf_move (v := .d (.val (.int .i64 (0)))) rfl rfl ?_)
  refine XK.nil (nrm ?_)
  refine QW.block ?_
  refine QW.loop (fun k σ => ∃ v4_2 : Int, ∃ v5_2 : Int, ∃ v13 : Int, k ≤ k0 ∧ run (step_wire_Size w0) k (.L1 v4_2 v5_2 v13) = some r ∧ σ = ⟨tab [(4, .d (.val (.int .i64 v4_2))), (5, .d (.val (.int .i64 v5_2))), (11, .d (.slice ((w0.fLinks).map eLink))), (12, .d (.val (.int .i64 ((w0.fLinks).length : Int)))), (13, .d (.val (.int .i64 v13)))], tabH [], 0, []⟩) k0 (Nat.zero_le _) ⟨⟨tab [(4, .d (.val (.int .i64 (0)))), (5, .d (.val (.int .i64 (0)))), (11, .d (.slice ((w0.fLinks).map eLink))), (12, .d (.val (.int .i64 ((w0.fLinks).length : Int)))), (13, .d (.val (.int .i64 (0))))], tabH [], 0, []⟩, View.mk 0 [] _ _ _ rfl rfl (by decide) (And.intro (Imp.of_eq rfl) (And.intro (Imp.of_eq rfl) (And.intro (Imp.of_eq rfl) (And.intro (Imp.of_eq rfl) (And.intro (Imp.of_eq rfl) trivial))))) trivial rfl (Nat.zero_le _) rfl, 0, 0, 0, Nat.le_refl _, jG h, rfl⟩ ?_
  rintro k1s _ ⟨v4_2, v5_2, v13, k1h, h, rfl⟩
  obtain ⟨k1, rfl, h9⟩ := run_succ h; replace h := h9; clear h9
  refine QW.seq ?_
  refine QW.region (Nat.zero_le _) (PW.regT (by kernel_rfl) ?_)
  refine XK.st (some 14) rfl rfl (sf_lss (a := v13) (b := ((w0.fLinks).length : Int)) rfl rfl rfl ?_)
  refine XK.nil (nrm ?_)
  refine QW.seq ?_
  refine QW.cond (t := (decide (v13 < ((w0.fLinks).length : Int)))) rfl (Nat.zero_le _) (fun hb2 => ?_) (fun hb2 => ?_)
  · replace h := bGT h hb2
    refine QW.skip (Nat.zero_le _) (nrm ?_)
    refine QW.seq ?_
    refine QW.block ?_
    refine QW.seq ?_
    refine QW.region (Nat.zero_le _) (PW.regT (by kernel_rfl) ?_)
    obtain ⟨c3, h⟩ := gG h
    refine XK.st (some 15) rfl rfl (sf_idxA (l := w0.fLinks) (i := v13) rfl TT.slcA_89 lay_Link rfl rfl c3 ?_)
    refine XK.st (some 16) rfl rfl (sf_ldC (d := .agg (cLink (idx (w0.fLinks) v13))) rfl TT.tyA_96 rfl (⟨by simp [cLink], rfl⟩) ?_)
    refine XK.st (some 7) rfl rfl (sf_alloc (l := [.d (.val (.int .i64 (0))), .full (([] : (List (List UInt8))).map eS)]) rfl TT.zeroA_96 rfl rfl ?_)
    refine XK.st none rfl rfl (sf_stV (l' := [.d (.val (.int .i64 ((idx (w0.fLinks) v13).fEpoch))), .d (.slice (((idx (w0.fLinks) v13).fProof).map eS))]) rfl TT.tyA_96 rfl rfl rfl rfl rfl rfl (by simp) rfl ?_)
    refine XK.nil (nrm ?_)
    refine QW.seq ?_
    refine QW.region (Nat.zero_le _) (PW.regT (by kernel_rfl) ?_)
    refine XK.st (some 17) rfl rfl (sf_fldV rfl TT.fldA_96_1 (by decide) rfl ?_)
    refine XK.st (some 18) rfl rfl (sf_ldV (v := .d (.slice (((idx (w0.fLinks) v13).fProof).map eS))) rfl TT.tyA_94 rfl rfl ⟨⟨by simp, by simp⟩, rfl⟩ ?_)
    refine XK.st (some 19) rfl rfl (sf_lenL (en := eS) (l := (idx (w0.fLinks) v13).fProof) rfl TT.under_94 rfl ?_)
    refine XK.st (some 20) rfl rfl (sf_move (v := .d (.val (.int .i64 (0)))) rfl rfl ?_)
    refine XK.nil (nrm ?_)
    refine QW.block ?_
    refine QW.loop (fun k σ => ∃ v4_6 : Int, ∃ v5_6 : Int, ∃ v13_5 : Int, ∃ v18_4 : (List (List UInt8)), ∃ v19_4 : Int, ∃ v20_3 : Int, k ≤ k1 ∧ run (step_wire_Size w0) k (.L2 v4_6 v5_6 v13_5 v18_4 v19_4 v20_3) = some r ∧ σ = ⟨tab [(4, .d (.val (.int .i64 v4_6))), (5, .d (.val (.int .i64 v5_6))), (11, .d (.slice ((w0.fLinks).map eLink))), (12, .d (.val (.int .i64 ((w0.fLinks).length : Int)))), (13, .d (.val (.int .i64 v13_5))), (18, .d (.slice (v18_4.map eS))), (19, .d (.val (.int .i64 v19_4))), (20, .d (.val (.int .i64 v20_3)))], tabH [], 0, []⟩) k1 (Nat.zero_le _) ⟨⟨tab [(4, .d (.val (.int .i64 v4_2))), (5, .d (.val (.int .i64 v5_2))), (11, .d (.slice ((w0.fLinks).map eLink))), (12, .d (.val (.int .i64 ((w0.fLinks).length : Int)))), (13, .d (.val (.int .i64 v13))), (18, .d (.slice (((idx (w0.fLinks) v13).fProof).map eS))), (19, .d (.val (.int .i64 (((idx (w0.fLinks) v13).fProof).length : Int)))), (20, .d (.val (.int .i64 (0))))], tabH [], 0, []⟩, View.mk 0 [] _ _ _ rfl rfl (by decide) (And.intro (Imp.of_eq rfl) (And.intro (Imp.of_eq rfl) (And.intro (Imp.of_eq rfl) (And.intro (Imp.of_eq rfl) (And.intro (Imp.of_eq rfl) (And.intro (Imp.of_eq rfl) (And.intro (Imp.of_eq rfl) (And.intro (Imp.of_eq rfl) trivial)))))))) trivial rfl (Nat.zero_le _) rfl, v4_2, v5_2, v13, (idx (w0.fLinks) v13).fProof, (((idx (w0.fLinks) v13).fProof).length : Int), 0, Nat.le_refl _, jG h, rfl⟩ ?_
    rintro k4s _ ⟨v4_6, v5_6, v13_5, v18_4, v19_4, v20_3, k4h, h, rfl⟩
    obtain ⟨k4, rfl, h9⟩ := run_succ h; replace h := h9; clear h9
    refine QW.seq ?_
    refine QW.region (Nat.zero_le _) (PW.regT (by kernel_rfl) ?_)
    refine XK.st (some 21) rfl rfl (sf_lss (a := v20_3) (b := v19_4) rfl rfl rfl ?_)
    refine XK.nil (nrm ?_)
    refine QW.seq ?_
    refine QW.cond (t := (decide (v20_3 < v19_4))) rfl (Nat.zero_le _) (fun hb5 => ?_) (fun hb5 => ?_)
    · replace h := bGT h hb5
      refine QW.skip (Nat.zero_le _) (nrm ?_)
      refine QW.seq ?_
      refine QW.block ?_
      refine QW.seq ?_
      refine QW.region (Nat.zero_le _) (PW.regT (by kernel_rfl) ?_)
      obtain ⟨c6, h⟩ := gG h
      refine XK.st (some 22) rfl rfl (sf_idxA (l := v18_4) (i := v20_3) rfl TT.slcA_94 lay_S rfl rfl c6 ?_)
      refine XK.st (some 23) rfl rfl (sf_ldC (d := .val (sV (idx v18_4 v20_3))) rfl TT.tyA_9 rfl (LdC.one) ?_)
      refine XK.st (some 9) rfl rfl (sf_assign (v := .d (.val (sV (idx v18_4 v20_3)))) rfl rfl ?_)
      refine XK.nil (nrm ?_)
      refine QW.seq ?_
      refine QW.region (Nat.zero_le _) (PW.regT (by kernel_rfl) ?_)
      refine XK.st (some 24) rfl rfl (sf_move (v := .d (.val (.int .i64 v4_6))) rfl rfl ?_)
      obtain ⟨c7, h⟩ := gG h
      refine XK.st (some 25) rfl rfl (sf_add (a := v4_6) (b := (1 : Int)) rfl rfl rfl c7 ?_)
      refine XK.st (some 4) rfl rfl (sf_assign (v := .d (.val (.int .i64 (v4_6 + (1 : Int))))) rfl rfl ?_)
      refine XK.nil (nrm ?_)
      refine QW.region (Nat.zero_le _) (PW.regT (by kernel_rfl) ?_)
      refine XK.st (some 26) rfl rfl (sf_move (v := .d (.val (.int .i64 v5_6))) rfl rfl ?_)
      refine XK.st (some 27) rfl rfl (sf_move (v := .d (.val (sV (idx v18_4 v20_3)))) rfl rfl ?_)
      refine XK.st (some 28) rfl rfl (sf_lenS (l := (idx v18_4 v20_3)) rfl TT.under_9 rfl ?_)
      obtain ⟨c8, h⟩ := gG h
      refine XK.st (some 29) rfl rfl (sf_add (a := v5_6) (b := ((idx v18_4 v20_3).length : Int)) rfl rfl rfl c8 ?_)
      refine XK.st (some 5) rfl rfl (sf_assign (v := .d (.val (.int .i64 (v5_6 + ((idx v18_4 v20_3).length : Int))))) rfl rfl ?_)
      refine XK.nil (blN (nrm ?_))
      refine QW.region (Nat.zero_le _) (PW.regT (by kernel_rfl) ?_)
      obtain ⟨c9, h⟩ := gG h
      refine XK.st (some 30) rfl rfl (sf_add (a := v20_3) (b := (1 : Int)) rfl rfl rfl c9 ?_)
      refine XK.st (some 20) rfl rfl (sf_move (v := .d (.val (.int .i64 (v20_3 + (1 : Int))))) rfl rfl ?_)
      refine XK.nil (nrm ?_)
      exact ⟨k4, by omega, ⟨tab [(4, .d (.val (.int .i64 (v4_6 + (1 : Int))))), (5, .d (.val (.int .i64 (v5_6 + ((idx v18_4 v20_3).length : Int))))), (11, .d (.slice ((w0.fLinks).map eLink))), (12, .d (.val (.int .i64 ((w0.fLinks).length : Int)))), (13, .d (.val (.int .i64 v13_5))), (18, .d (.slice (v18_4.map eS))), (19, .d (.val (.int .i64 v19_4))), (20, .d (.val (.int .i64 (v20_3 + (1 : Int)))))], tabH [], 0, []⟩, View.mk 0 [] _ _ _ rfl rfl (by decide) (And.intro (Imp.of_eq rfl) (And.intro (Imp.of_eq rfl) (And.intro (Imp.of_eq rfl) (And.intro (Imp.of_eq rfl) (And.intro (Imp.of_eq rfl) (And.intro (Imp.of_eq rfl) (And.intro (Imp.of_eq rfl) (And.intro (Imp.of_eq rfl) trivial)))))))) trivial rfl (Nat.zero_le _) rfl, (v4_6 + (1 : Int)), (v5_6 + ((idx v18_4 v20_3).length : Int)), v13_5, v18_4, v19_4, (v20_3 + (1 : Int)), by omega, jG h, rfl⟩
    · replace h := bGF h hb5
      refine QW.exit (Nat.zero_le _) (thX (thX (exE (blN (nrm ?_)))))
      refine QW.region (Nat.zero_le _) (PW.regT (by kernel_rfl) ?_)
      obtain ⟨c10, h⟩ := gG h
      refine XK.st (some 31) rfl rfl (sf_add (a := v13_5) (b := (1 : Int)) rfl rfl rfl c10 ?_)
      refine XK.st (some 13) rfl rfl (sf_move (v := .d (.val (.int .i64 (v13_5 + (1 : Int))))) rfl rfl ?_)
      refine XK.nil (nrm ?_)
      exact ⟨k4, by omega, ⟨tab [(4, .d (.val (.int .i64 v4_6))), (5, .d (.val (.int .i64 v5_6))), (11, .d (.slice ((w0.fLinks).map eLink))), (12, .d (.val (.int .i64 ((w0.fLinks).length : Int)))), (13, .d (.val (.int .i64 (v13_5 + (1 : Int)))))], tabH [], 0, []⟩, View.mk 0 [] _ _ _ rfl rfl (by decide) (And.intro (Imp.of_eq rfl) (And.intro (Imp.of_eq rfl) (And.intro (Imp.of_eq rfl) (And.intro (Imp.of_eq rfl) (And.intro (Imp.of_eq rfl) trivial))))) trivial rfl (Nat.zero_le _) rfl, v4_6, v5_6, (v13_5 + (1 : Int)), by omega, jG h, rfl⟩
  · replace h := bGF h hb2
    refine QW.exit (Nat.zero_le _) (thX (thX (exE (nrm ?_))))
    refine QW.seq ?_
    refine QW.region (Nat.zero_le _) (PW.regT (by kernel_rfl) ?_)
    refine XK.st (some 32) rfl rfl (sf_move (v := .d (.val (.int .i64 v4_2))) rfl rfl ?_)
    refine XK.st (some 33) rfl rfl (sf_move (v := .d (.val (.int .i64 v5_2))) rfl rfl ?_)
    refine XK.st (some 2) rfl rfl (sf_assign (v := .d (.val (.int .i64 v4_2))) rfl rfl ?_)
    refine XK.st (some 3) rfl rfl (sf_assign (v := .d (.val (.int .i64 v5_2))) rfl rfl ?_)
    refine XK.nil (nrm ?_)
    refine QW.ret (Nat.zero_le _) ?_
    obtain rfl := sG h
    exact Ends.more (.inr rfl) rfl (ps := [.d (.val (.int .i64 v4_2)), .d (.val (.int .i64 v5_2))]) (And.intro (ResIs.tmp rfl) (And.intro (ResIs.tmp rfl) trivial)) rfl rfl

end Go.Proofs.Ytonlehebfeilmaa.K
