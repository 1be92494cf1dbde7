/- The laws of layer 06: what they reckon. -/
import Derived.Test.YtoeppofkmcdknaaS6WR06
import Derived.KernelRfl
namespace Go.Proofs.Ytoeppofkmcdknaa.K
open Go Go.RowKit
set_option linter.unusedSimpArgs false
set_option linter.unusedVariables false
namespace TT
theorem enters_32 : entersB Try.prog 32 = true := by kernel_rfl
theorem enters_33 : entersB Try.prog 33 = true := by kernel_rfl
theorem enters_39 : entersB Try.prog 39 = true := by kernel_rfl
theorem enters_44 : entersB Try.prog 44 = true := by kernel_rfl
theorem enters_46 : entersB Try.prog 46 = true := by kernel_rfl
theorem res_32 : Try.f32.results.toList = [.tmp 2] := rfl
theorem res_33 : Try.f33.results.toList = [.tmp 0] := rfl
theorem res_6 : Try.f6.results.toList = [.tmp 2] := rfl
theorem res_7 : Try.f7.results.toList = [.tmp 2] := rfl
theorem res_8 : Try.f8.results.toList = [.tmp 6] := rfl
theorem under_4 : Program.underlying Try.prog 4 = some (.bool) := by kernel_rfl
end TT
inductive C_law06_Light where
  | S
  | L1 (v3 : Int)
noncomputable def step_law06_Light (n0 : Node) : C_law06_Light → Option (C_law06_Light ⊕ Bool)
  | .S =>
    some (.inl (.L1 (0)))
  | .L1 v3 =>
    (bif (decide (v3 < (16 : Int))) then
    gO (0 ≤ v3 ∧ v3 < ((16 : Nat) : Int)) (
    (bif (decide ((100 : Int) < ((idx (n0.fKids).1 v3).length : Int))) then
    some (.inr false)
    else
    gO (inI (v3 + (1 : Int))) (
    some (.inl (.L1 (v3 + (1 : Int)))))))
    else
    some (.inr ((decide (((n0.fPath).length : Int) ≤ (100 : Int))) && (decide (((n0.fValue).length : Int) ≤ (500 : Int))))))
noncomputable def g_law06_Light (n0 : Node) : Option Bool := theC (step_law06_Light n0) .S
set_option maxRecDepth 20000 in
set_option maxHeartbeats 4000000 in
theorem sim_law06_Light (n0 : Node) (r : Bool) (h : g_law06_Light n0 = some r) : Fun Try.prog 32 [.agg (cNode n0)] (.val (.bool r)) := by
  refine Fun.of_bodyQ Try.func32 rfl (by simp [Try.ntmps32]) ?_
  rw [Try.ntmps32, TT.res_32]
  refine QW.view (s' := ⟨tab [(0, .d (.agg (cNode n0)))], tabH [], 0, []⟩) (View.init (by rfl)) (Nat.zero_le _) ?_
  replace h := theC_get h
  obtain ⟨_, h⟩ := h
  obtain ⟨k_0, rfl, h9⟩ := run_succ h; replace h := h9; clear h9; rw [step_law06_Light] at h
  refine QW.seq ?_
  refine QW.region (Nat.zero_le _) (PW.regT (by kernel_rfl) ?_)
  refine XK.fz (some 1) rfl rfl (sf_boxF (ds := cNode n0) rfl rfl rfl rfl toDs_map ?_)
  refine XK.st (some 2) rfl rfl (sf_assign (v := .d (.val (.bool false))) rfl rfl ?_)
  refine XK.nz ?_
  refine QW.seq ?_
  refine QW.seq ?_
  refine QW.region (Nat.zero_le _) (PW.regT (by kernel_rfl) ?_)
  refine XK.st (some 3) rfl rfl (sf_assign (v := .d (.val (.int .i64 (0)))) rfl rfl ?_)
  refine XK.nz ?_
  refine QW.block ?_
  refine QW.loop (fun k σ => ∃ v3 : Int, k ≤ k_0 ∧ run (step_law06_Light n0) k (.L1 v3) = some r ∧ σ = ⟨tab [(1, .d (.cptr (cNode n0))), (3, .d (.val (.int .i64 v3)))], tabH [], 0, []⟩) k_0 (Nat.zero_le _) ⟨⟨tab [(1, .d (.cptr (cNode n0))), (3, .d (.val (.int .i64 (0))))], tabH [], 0, []⟩, View.mk 0 [] _ _ _ rfl rfl (by decide) (And.intro (Imp.of_eq rfl) (And.intro (Imp.of_eq rfl) trivial)) trivial rfl (Nat.zero_le _) rfl, 0, Nat.le_refl _, jG h, rfl⟩ ?_
  rintro k_1s _ ⟨v3, k_1h, h, rfl⟩
  obtain ⟨k_1, rfl, h9⟩ := run_succ h; replace h := h9; clear h9; rw [step_law06_Light] at h
  refine QW.seq ?_
  refine QW.seq ?_
  refine QW.region (Nat.zero_le _) (PW.regT (by kernel_rfl) ?_)
  refine XK.st (some 4) rfl rfl (sf_move (v := .d (.val (.int .i64 v3))) rfl rfl ?_)
  refine XK.st (some 5) rfl rfl (sf_lss (a := v3) (b := (16 : Int)) rfl rfl rfl ?_)
  refine XK.nz ?_
  refine QW.cond (t := (decide (v3 < (16 : Int)))) rfl (Nat.zero_le _) (fun hb_2 => ?_) (fun hb_2 => ?_)
  · replace h := bGT h hb_2
    refine QW.skip (Nat.zero_le _) (nrm ?_)
    refine QW.seq ?_
    refine QW.block ?_
    refine QW.seq ?_
    refine QW.region (Nat.zero_le _) (PW.regT (by kernel_rfl) ?_)
    refine XK.st (some 8) rfl rfl (sf_move (v := .d (.val (.int .i64 v3))) rfl rfl ?_)
    refine XK.st (some 9) rfl rfl (sf_fldC rfl TT.fldA_52_3 (by decide) rfl ?_)
    obtain ⟨c_3, h⟩ := gG h
    refine XK.st (some 10) rfl rfl (sf_idxC (i := v3) rfl TT.slcA_50 TT.arrA_50 rfl rfl c_3 ?_)
    refine XK.st (some 11) rfl rfl (sf_ldC (d := .val (sV (idx (n0.fKids).1 v3))) rfl TT.tyA_9 rfl (ld_arr (pre_Node_3 _) c_3) ?_)
    refine XK.st (some 12) rfl rfl (sf_lenS (l := (idx (n0.fKids).1 v3)) rfl TT.under_9 rfl ?_)
    refine XK.st (some 13) rfl rfl (sf_gtr (a := ((idx (n0.fKids).1 v3).length : Int)) (b := (100 : Int)) rfl rfl rfl ?_)
    refine XK.nz ?_
    refine QW.cond (t := (decide ((100 : Int) < ((idx (n0.fKids).1 v3).length : Int)))) rfl (Nat.zero_le _) (fun hb_4 => ?_) (fun hb_4 => ?_)
    · replace h := bGT h hb_4
      refine QW.seq ?_
      refine QW.region (Nat.zero_le _) (PW.regT (by kernel_rfl) ?_)
      refine XK.st (some 2) rfl rfl (sf_assign (v := .d (.val (.bool false))) rfl rfl ?_)
      refine XK.nz ?_
      refine QW.ret (Nat.zero_le _) (blR (thR (thR (blR (thR ?_)))))
      obtain rfl := sG h
      exact Ends.one (.inr rfl) rfl (ResIs.tmp rfl) rfl rfl
    · replace h := bGF h hb_4
      refine QW.skip (Nat.zero_le _) (blN (nrm ?_))
      refine QW.region (Nat.zero_le _) (PW.regT (by kernel_rfl) ?_)
      refine XK.st (some 6) rfl rfl (sf_move (v := .d (.val (.int .i64 v3))) rfl rfl ?_)
      obtain ⟨c_5, h⟩ := gG h
      refine XK.st (some 7) rfl rfl (sf_add (a := v3) (b := (1 : Int)) rfl rfl rfl c_5 ?_)
      refine XK.st (some 3) rfl rfl (sf_assign (v := .d (.val (.int .i64 (v3 + (1 : Int))))) rfl rfl ?_)
      refine XK.nz ?_
      exact ⟨k_1, by omega, ⟨tab [(1, .d (.cptr (cNode n0))), (3, .d (.val (.int .i64 (v3 + (1 : Int)))))], tabH [], 0, []⟩, View.mk 0 [] _ _ _ rfl rfl (by decide) (And.intro (Imp.of_eq rfl) (And.intro (Imp.of_eq rfl) trivial)) trivial rfl (Nat.zero_le _) rfl, (v3 + (1 : Int)), by omega, jG h, rfl⟩
  · replace h := bGF h hb_2
    refine QW.exit (Nat.zero_le _) (thX (thX (exE (nrm ?_))))
    refine QW.seq ?_
    refine QW.region (Nat.zero_le _) (PW.regT (by kernel_rfl) ?_)
    refine XK.st (some 14) rfl rfl (sf_fldC rfl TT.fldA_52_1 (by decide) rfl ?_)
    refine XK.st (some 15) rfl rfl (sf_ldC (d := .slice ((n0.fPath).map byteD)) rfl TT.tyA_49 rfl (ldc_Node_1 _) ?_)
    refine XK.st (some 16) rfl rfl (sf_lenL (en := byteD) (l := n0.fPath) rfl TT.under_49 rfl ?_)
    refine XK.st (some 17) rfl rfl (sf_leq (a := ((n0.fPath).length : Int)) (b := (100 : Int)) rfl rfl rfl ?_)
    refine XK.st (some 18) rfl rfl (sf_move (v := .d (.val (.bool (decide (((n0.fPath).length : Int) ≤ (100 : Int)))))) rfl rfl ?_)
    refine XK.gd (v := .d (.cptr ((cNode n0).drop 2))) (T := []) (some 19) rfl rfl (by repeat (first | exact trivial | refine ⟨fun q => by first | rfl | exact q | exact cda q | exact cdb q, ?_⟩)) (fun hg => sf_fldC rfl TT.fldA_52_2 (by decide) rfl g3) nm0 ?_
    refine XK.gd (v := .d (.val (sV (n0.fValue)))) (T := []) (some 20) rfl rfl (by repeat (first | exact trivial | refine ⟨fun q => by first | rfl | exact q | exact cda q | exact cdb q, ?_⟩)) (fun hg => sf_ldC (d := .val (sV (n0.fValue))) rfl TT.tyA_9 rfl (ldc_Node_2 _) g3) nm0 ?_
    refine XK.gd (v := .d (.val (.int .i64 ((n0.fValue).length : Int)))) (T := []) (some 21) rfl rfl (by repeat (first | exact trivial | refine ⟨fun q => by first | rfl | exact q | exact cda q | exact cdb q, ?_⟩)) (fun hg => sf_lenS (l := n0.fValue) rfl TT.under_9 rfl g3) nm0 ?_
    refine XK.gd (v := .d (.val (.bool (decide (((n0.fValue).length : Int) ≤ (500 : Int)))))) (T := []) (some 22) rfl rfl (by repeat (first | exact trivial | refine ⟨fun q => by first | rfl | exact q | exact cda q | exact cdb q, ?_⟩)) (fun hg => sf_leq (a := ((n0.fValue).length : Int)) (b := (500 : Int)) rfl rfl rfl g3) nm0 ?_
    refine XK.st (some 23) rfl rfl (sf_pickA rfl rfl rfl rfl (fun hb => by rw [hb]; rfl) (fun _ => rfl) ?_)
    refine XK.st (some 2) rfl rfl (sf_assign (v := .d (.val (.bool ((decide (((n0.fPath).length : Int) ≤ (100 : Int))) && (decide (((n0.fValue).length : Int) ≤ (500 : Int))))))) rfl rfl ?_)
    refine XK.nz ?_
    refine QW.ret (Nat.zero_le _) ?_
    obtain rfl := sG h
    exact Ends.one (.inr rfl) rfl (ResIs.tmp rfl) rfl rfl
noncomputable def g_law06_awake  : Option Bool :=
    ((g_node_Leaf ([(1 : UInt8)] : List UInt8) ([97] : List UInt8)).bind fun (x_1 : Node) =>
    ((g_node_Put x_1).bind fun (x_3 : ((List UInt8) × Int)) =>
    ((g_node_Get (x_3.1)).bind fun (x_5 : (Node × Int)) =>
    ((g_node_Ext ([(2 : UInt8), (3 : UInt8)] : List UInt8) (x_3.1)).bind fun (x_7 : Node) =>
    ((g_node_Put x_7).bind fun (x_9 : ((List UInt8) × Int)) =>
    ((bif ((((x_3.1 == ([194, 49, 97] : List UInt8)) && (decide ((x_3.2) = (0 : Int)))) && (decide ((x_5.2) = (0 : Int)))) == true) then g_node_Leaf ([(1 : UInt8)] : List UInt8) ([97] : List UInt8) else some default).bind fun (x_11 : Node) =>
    ((bif ((((x_3.1 == ([194, 49, 97] : List UInt8)) && (decide ((x_3.2) = (0 : Int)))) && (decide ((x_5.2) = (0 : Int)))) == true) then g_node_Same (x_5.1) x_11 else some default).bind fun (x_13 : Bool) =>
    gO ((((((x_3.1 == ([194, 49, 97] : List UInt8)) && (decide ((x_3.2) = (0 : Int)))) && (decide ((x_5.2) = (0 : Int)))) && x_13) == true) = true → ([198, 130, 0, 35] : List UInt8).length + (x_3.1).length ≤ 9223372036854775807) (
    ((bif (((((((x_3.1 == ([194, 49, 97] : List UInt8)) && (decide ((x_3.2) = (0 : Int)))) && (decide ((x_5.2) = (0 : Int)))) && x_13) && (x_9.1 == (([198, 130, 0, 35] : List UInt8) ++ x_3.1))) && (decide ((x_9.2) = (0 : Int)))) == true) then g_node_Reference (x_3.1) else some default).bind fun (x_16 : Bool) =>
    ((bif ((((((((x_3.1 == ([194, 49, 97] : List UInt8)) && (decide ((x_3.2) = (0 : Int)))) && (decide ((x_5.2) = (0 : Int)))) && x_13) && (x_9.1 == (([198, 130, 0, 35] : List UInt8) ++ x_3.1))) && (decide ((x_9.2) = (0 : Int)))) && x_16) == true) then g_node_Reference ([120] : List UInt8) else some default).bind fun (x_18 : Bool) =>
    ((bif (((((((((x_3.1 == ([194, 49, 97] : List UInt8)) && (decide ((x_3.2) = (0 : Int)))) && (decide ((x_5.2) = (0 : Int)))) && x_13) && (x_9.1 == (([198, 130, 0, 35] : List UInt8) ++ x_3.1))) && (decide ((x_9.2) = (0 : Int)))) && x_16) && (!x_18)) == true) then g_node_Ext ([(1 : UInt8)] : List UInt8) (x_3.1) else some default).bind fun (x_20 : Node) =>
    ((bif (((((((((x_3.1 == ([194, 49, 97] : List UInt8)) && (decide ((x_3.2) = (0 : Int)))) && (decide ((x_5.2) = (0 : Int)))) && x_13) && (x_9.1 == (([198, 130, 0, 35] : List UInt8) ++ x_3.1))) && (decide ((x_9.2) = (0 : Int)))) && x_16) && (!x_18)) == true) then g_node_Kids x_20 else some default).bind fun (x_22 : (List (List UInt8))) =>
    some (((((((((x_3.1 == ([194, 49, 97] : List UInt8)) && (decide ((x_3.2) = (0 : Int)))) && (decide ((x_5.2) = (0 : Int)))) && x_13) && (x_9.1 == (([198, 130, 0, 35] : List UInt8) ++ x_3.1))) && (decide ((x_9.2) = (0 : Int)))) && x_16) && (!x_18)) && (decide ((x_22.length : Int) = (1 : Int))))))))))))))))
set_option maxRecDepth 20000 in
set_option maxHeartbeats 4000000 in
theorem sim_law06_awake  (r : Bool) (h : g_law06_awake  = some r) : Fun Try.prog 33 [] (.val (.bool r)) := by
  refine Fun.of_bodyQ Try.func33 rfl (by simp [Try.ntmps33]) ?_
  rw [Try.ntmps33, TT.res_33]
  refine QW.view (s' := ⟨tab [], tabH [], 0, []⟩) (View.init (by rfl)) (Nat.zero_le _) ?_
  unfold g_law06_awake at h
  refine QW.seq ?_
  refine QW.region (Nat.zero_le _) (PW.regT (by kernel_rfl) ?_)
  refine XK.st (some 0) rfl rfl (sf_assign (v := .d (.val (.bool false))) rfl rfl ?_)
  refine XK.nz ?_
  refine QW.seq ?_
  refine QW.region (Nat.zero_le _) (PW.regT (by kernel_rfl) ?_)
  refine XK.st (some 8) rfl rfl (sf_row (en := byteD) (l := ([(1 : UInt8)] : List UInt8)) rfl TT.rowA_49 lay_byte rfl rfl (by decide) (by simp [solids, partsP, evP, ofVal, PV.solid, putS_at, tab, unS, unT, unC, asCond, Value.oneCell']) ?_)
  obtain ⟨x_1, hx_2, h⟩ := bO h
  refine XK.st (some 9) rfl rfl (sf_call rfl rfl TT.enters_41 rfl (sim_node_Leaf ([(1 : UInt8)] : List UInt8) ([97] : List UInt8) _ hx_2) ?_)
  obtain ⟨x_3, hx_4, h⟩ := bO h
  refine XK.st (some 10) rfl rfl (sf_call rfl rfl TT.enters_34 rfl (sim_node_Put x_1 _ hx_4) ?_)
  refine XK.st (some 7) rfl rfl (sf_move (v := .d (.tuple [.val (sV (x_3.1)), .val (.int .i64 (x_3.2))])) rfl rfl ?_)
  refine XK.st (some 11) rfl rfl (sf_extract rfl rfl rfl ?_)
  refine XK.st (some 12) rfl rfl (sf_extract rfl rfl rfl ?_)
  refine XK.st (some 1) rfl rfl (sf_assign (v := .d (.val (sV (x_3.1)))) rfl rfl ?_)
  refine XK.st (some 2) rfl rfl (sf_assign (v := .d (.val (.int .i64 (x_3.2)))) rfl rfl ?_)
  refine XK.nz ?_
  refine QW.seq ?_
  refine QW.region (Nat.zero_le _) (PW.regT (by kernel_rfl) ?_)
  refine XK.st (some 14) rfl rfl (sf_move (v := .d (.val (sV (x_3.1)))) rfl rfl ?_)
  obtain ⟨x_5, hx_6, h⟩ := bO h
  refine XK.st (some 15) rfl rfl (sf_call rfl rfl TT.enters_37 rfl (sim_node_Get (x_3.1) _ hx_6) ?_)
  refine XK.st (some 13) rfl rfl (sf_move (v := .d (.tuple [.agg (cNode (x_5.1)), .val (.int .i64 (x_5.2))])) rfl rfl ?_)
  refine XK.st (some 16) rfl rfl (sf_extract rfl rfl rfl ?_)
  refine XK.st (some 17) rfl rfl (sf_extract rfl rfl rfl ?_)
  refine XK.st (some 3) rfl rfl (sf_alloc (l := (([.d (.val (.int .i64 (0))), .full (([] : (List UInt8)).map byteD), .d (.val (sV ([] : List UInt8)))]) ++ (((Arr.rep 16 ([] : (List UInt8))).1.map eS).map PV.d))) rfl TT.zeroA_52 rfl rfl ?_)
  refine XK.st none rfl rfl (sf_stV (c := (([.d (.val (.int .i64 ((x_5.1).fKind))), .d (.slice (((x_5.1).fPath).map byteD)), .d (.val (sV ((x_5.1).fValue)))]) ++ ((((x_5.1).fKids).1.map eS).map PV.d))) (l' := (([.d (.val (.int .i64 ((x_5.1).fKind))), .d (.slice (((x_5.1).fPath).map byteD)), .d (.val (sV ((x_5.1).fValue)))]) ++ ((((x_5.1).fKids).1.map eS).map PV.d))) rfl TT.tyA_52 rfl rfl rfl rfl (show (cNode (x_5.1)).map PV.d = _ by simp only [cNode, List.map_append]; rfl) (len_app (A := [.d (.val (.int .i64 ((x_5.1).fKind))), .d (.slice (((x_5.1).fPath).map byteD)), .d (.val (sV ((x_5.1).fValue)))]) (b := 16) rfl (len_map2 _) rfl) (le_of_len (len_app (A := [.d (.val (.int .i64 (0))), .full (([] : (List UInt8)).map byteD), .d (.val (sV ([] : List UInt8)))]) (b := 16) rfl (len_map2 _) rfl) (Nat.le_of_ble_eq_true rfl)) (spl_same ((len_app (A := [.d (.val (.int .i64 (0))), .full (([] : (List UInt8)).map byteD), .d (.val (sV ([] : List UInt8)))]) (b := 16) rfl (len_map2 _) rfl).trans (len_app (A := [.d (.val (.int .i64 ((x_5.1).fKind))), .d (.slice (((x_5.1).fPath).map byteD)), .d (.val (sV ((x_5.1).fValue)))]) (b := 16) rfl (len_map2 _) rfl).symm)) ?_)
  refine XK.st (some 4) rfl rfl (sf_assign (v := .d (.val (.int .i64 (x_5.2)))) rfl rfl ?_)
  refine XK.nz ?_
  refine QW.seq ?_
  refine QW.view (s' := ⟨tab [(1, .d (.val (sV (x_3.1)))), (2, .d (.val (.int .i64 (x_3.2)))), (3, .vptr 0 0), (4, .d (.val (.int .i64 (x_5.2))))], tabH [.var (([.d (.val (.int .i64 ((x_5.1).fKind))), .d (.slice (((x_5.1).fPath).map byteD)), .d (.val (sV ((x_5.1).fValue)))]) ++ ((((x_5.1).fKids).1.map eS).map PV.d))], 1, []⟩) (View.mk 1 [0] _ _ _ rfl rfl (by decide) (And.intro (Imp.of_eq rfl) (And.intro (Imp.of_eq rfl) (And.intro (Imp.of_eq rfl) (And.intro (Imp.of_eq rfl) trivial)))) (And.intro (by simp only [atH1, res_app, PV.res_d]; rfl) trivial) rfl (Nat.zero_le _) rfl) (Nat.zero_le _) ?_
  refine QW.region (Nat.zero_le _) (PW.regT (by kernel_rfl) ?_)
  refine XK.st (some 19) rfl rfl (sf_row (en := byteD) (l := ([(2 : UInt8), (3 : UInt8)] : List UInt8)) rfl TT.rowA_49 lay_byte rfl rfl (by decide) (by simp [solids, partsP, evP, ofVal, PV.solid, putS_at, tab, unS, unT, unC, asCond, Value.oneCell']) ?_)
  refine XK.st (some 20) rfl rfl (sf_move (v := .d (.val (sV (x_3.1)))) rfl rfl ?_)
  obtain ⟨x_7, hx_8, h⟩ := bO h
  refine XK.st (some 21) rfl rfl (sf_call rfl rfl TT.enters_42 rfl (sim_node_Ext ([(2 : UInt8), (3 : UInt8)] : List UInt8) (x_3.1) _ hx_8) ?_)
  obtain ⟨x_9, hx_10, h⟩ := bO h
  refine XK.st (some 22) rfl rfl (sf_call rfl rfl TT.enters_34 rfl (sim_node_Put x_7 _ hx_10) ?_)
  refine XK.st (some 18) rfl rfl (sf_move (v := .d (.tuple [.val (sV (x_9.1)), .val (.int .i64 (x_9.2))])) rfl rfl ?_)
  refine XK.st (some 23) rfl rfl (sf_extract rfl rfl rfl ?_)
  refine XK.st (some 24) rfl rfl (sf_extract rfl rfl rfl ?_)
  refine XK.st (some 5) rfl rfl (sf_assign (v := .d (.val (sV (x_9.1)))) rfl rfl ?_)
  refine XK.st (some 6) rfl rfl (sf_assign (v := .d (.val (.int .i64 (x_9.2)))) rfl rfl ?_)
  refine XK.nz ?_
  refine QW.seq ?_
  refine QW.region (Nat.zero_le _) (PW.regQ (id := 4) mixedX (M := _) rfl (by kernel_rfl) ?_)
  refine RQ.st (some 25) rfl rfl (sf_move (v := .d (.val (sV (x_3.1)))) rfl rfl ⟨⟨rfl, rfl⟩, ?_⟩)
  refine RQ.st (some 26) rfl rfl (sf_seq (a := x_3.1) (b := ([194, 49, 97] : List UInt8)) rfl rfl rfl ⟨⟨rfl, rfl⟩, ?_⟩)
  refine RQ.st (some 27) rfl rfl (sf_move (v := .d (.val (.bool (x_3.1 == ([194, 49, 97] : List UInt8))))) rfl rfl ⟨⟨rfl, rfl⟩, ?_⟩)
  refine RQ.gd (v := .d (.val (.int .i64 (x_3.2)))) (T := []) (some 28) rfl rfl (by repeat (first | exact trivial | refine ⟨fun q => by first | rfl | exact q | exact cda q | exact cdb q, ?_⟩)) (fun hg => sf_move (v := .d (.val (.int .i64 (x_3.2)))) rfl rfl g3) nm0 ?_
  refine RQ.gd (v := .d (.val (.bool (decide ((x_3.2) = (0 : Int)))))) (T := []) (some 29) rfl rfl (by repeat (first | exact trivial | refine ⟨fun q => by first | rfl | exact q | exact cda q | exact cdb q, ?_⟩)) (fun hg => sf_eq (a := (x_3.2)) (b := (0 : Int)) rfl rfl rfl g3) nm0 ?_
  refine RQ.st (some 30) rfl rfl (sf_pickA rfl rfl rfl rfl (fun hb => by rw [hb]; rfl) (fun _ => rfl) ⟨⟨rfl, rfl⟩, ?_⟩)
  refine RQ.st (some 31) rfl rfl (sf_move (v := .d (.val (.bool ((x_3.1 == ([194, 49, 97] : List UInt8)) && (decide ((x_3.2) = (0 : Int))))))) rfl rfl ⟨⟨rfl, rfl⟩, ?_⟩)
  refine RQ.gd (v := .d (.val (.int .i64 (x_5.2)))) (T := []) (some 32) rfl rfl (by repeat (first | exact trivial | refine ⟨fun q => by first | rfl | exact q | exact cda q | exact cdb q, ?_⟩)) (fun hg => sf_move (v := .d (.val (.int .i64 (x_5.2)))) rfl rfl g3) nm0 ?_
  refine RQ.gd (v := .d (.val (.bool (decide ((x_5.2) = (0 : Int)))))) (T := []) (some 33) rfl rfl (by repeat (first | exact trivial | refine ⟨fun q => by first | rfl | exact q | exact cda q | exact cdb q, ?_⟩)) (fun hg => sf_eq (a := (x_5.2)) (b := (0 : Int)) rfl rfl rfl g3) nm0 ?_
  refine RQ.st (some 34) rfl rfl (sf_pickA rfl rfl rfl rfl (fun hb => by rw [hb]; rfl) (fun _ => rfl) ⟨⟨rfl, rfl⟩, ?_⟩)
  refine RQ.st (some 35) rfl rfl (sf_move (v := .d (.val (.bool (((x_3.1 == ([194, 49, 97] : List UInt8)) && (decide ((x_3.2) = (0 : Int)))) && (decide ((x_5.2) = (0 : Int))))))) rfl rfl ⟨⟨rfl, rfl⟩, ?_⟩)
  refine RQ.gd (v := .d (.agg (cNode (x_5.1)))) (T := [0]) (some 36) rfl rfl (by repeat (first | exact trivial | refine ⟨fun q => by first | rfl | exact q | exact cda q | exact cdb q, ?_⟩)) (fun hg => sf_ldV (v := .agg (([.d (.val (.int .i64 ((x_5.1).fKind))), .d (.slice (((x_5.1).fPath).map byteD)), .d (.val (sV ((x_5.1).fValue)))]) ++ ((((x_5.1).fKids).1.map eS).map PV.d))) rfl TT.tyA_52 rfl rfl (ldv_whole (len_app (A := [.d (.val (.int .i64 ((x_5.1).fKind))), .d (.slice (((x_5.1).fPath).map byteD)), .d (.val (sV ((x_5.1).fValue)))]) (b := 16) rfl (len_map2 _) rfl) (Nat.succ_pos _)) ⟨⟨rfl, rfl, rfl⟩, rfl, (Imp.toD (toD_agg (toDs_app rfl toDs_map)))⟩) (fun _ i hi => by simp only [List.mem_singleton] at hi; subst hi; decide) ?_
  refine RQ.gd (v := .full (([(1 : UInt8)] : List UInt8).map byteD)) (T := []) (some 37) rfl rfl (by repeat (first | exact trivial | refine ⟨fun q => by first | rfl | exact q | exact cda q | exact cdb q, ?_⟩)) (fun hg => sf_row (en := byteD) (l := ([(1 : UInt8)] : List UInt8)) rfl TT.rowA_49 lay_byte rfl rfl (by decide) (by simp [solids, partsP, evP, ofVal, PV.solid, putS_at, tab, unS, unT, unC, asCond, Value.oneCell']) g3) nm0 ?_
  obtain ⟨x_11, hx_12, h⟩ := bO h
  refine RQ.gd (v := .d (.agg (cNode x_11))) (T := []) (some 38) rfl rfl (by repeat (first | exact trivial | refine ⟨fun q => by first | rfl | exact q | exact cda q | exact cdb q, ?_⟩)) (fun hg => sf_call rfl rfl TT.enters_41 rfl (sim_node_Leaf ([(1 : UInt8)] : List UInt8) ([97] : List UInt8) _ (bT hx_12 hg)) g3) nm0 ?_
  obtain ⟨x_13, hx_14, h⟩ := bO h
  refine RQ.gd (v := .d (.val (.bool x_13))) (T := []) (some 39) rfl rfl (by repeat (first | exact trivial | refine ⟨fun q => by first | rfl | exact q | exact cda q | exact cdb q, ?_⟩)) (fun hg => sf_call rfl rfl TT.enters_46 rfl (sim_node_Same (x_5.1) x_11 _ (bT hx_14 hg)) g3) nm0 ?_
  refine RQ.st (some 40) rfl rfl (sf_pickA rfl rfl rfl rfl (fun hb => by rw [hb]; rfl) (fun _ => rfl) ⟨⟨rfl, rfl⟩, ?_⟩)
  refine RQ.st (some 41) rfl rfl (sf_move (v := .d (.val (.bool ((((x_3.1 == ([194, 49, 97] : List UInt8)) && (decide ((x_3.2) = (0 : Int)))) && (decide ((x_5.2) = (0 : Int)))) && x_13)))) rfl rfl ⟨⟨rfl, rfl⟩, ?_⟩)
  refine RQ.gd (v := .d (.val (sV (x_9.1)))) (T := []) (some 42) rfl rfl (by repeat (first | exact trivial | refine ⟨fun q => by first | rfl | exact q | exact cda q | exact cdb q, ?_⟩)) (fun hg => sf_move (v := .d (.val (sV (x_9.1)))) rfl rfl g3) nm0 ?_
  refine RQ.gd (v := .d (.val (sV (x_3.1)))) (T := []) (some 43) rfl rfl (by repeat (first | exact trivial | refine ⟨fun q => by first | rfl | exact q | exact cda q | exact cdb q, ?_⟩)) (fun hg => sf_move (v := .d (.val (sV (x_3.1)))) rfl rfl g3) nm0 ?_
  obtain ⟨c_15, h⟩ := gO_get h
  refine RQ.gd (v := .d (.val (sV (([198, 130, 0, 35] : List UInt8) ++ x_3.1)))) (T := []) (some 44) rfl rfl (by repeat (first | exact trivial | refine ⟨fun q => by first | rfl | exact q | exact cda q | exact cdb q, ?_⟩)) (fun hg => sf_cat (a := ([198, 130, 0, 35] : List UInt8)) (b := x_3.1) rfl rfl rfl (c_15 hg) g3) nm0 ?_
  refine RQ.gd (v := .d (.val (.bool (x_9.1 == (([198, 130, 0, 35] : List UInt8) ++ x_3.1))))) (T := []) (some 45) rfl rfl (by repeat (first | exact trivial | refine ⟨fun q => by first | rfl | exact q | exact cda q | exact cdb q, ?_⟩)) (fun hg => sf_seq (a := x_9.1) (b := (([198, 130, 0, 35] : List UInt8) ++ x_3.1)) rfl rfl rfl g3) nm0 ?_
  refine RQ.st (some 46) rfl rfl (sf_pickA rfl rfl rfl rfl (fun hb => by rw [hb]; rfl) (fun _ => rfl) ⟨⟨rfl, rfl⟩, ?_⟩)
  refine RQ.st (some 47) rfl rfl (sf_move (v := .d (.val (.bool (((((x_3.1 == ([194, 49, 97] : List UInt8)) && (decide ((x_3.2) = (0 : Int)))) && (decide ((x_5.2) = (0 : Int)))) && x_13) && (x_9.1 == (([198, 130, 0, 35] : List UInt8) ++ x_3.1)))))) rfl rfl ⟨⟨rfl, rfl⟩, ?_⟩)
  refine RQ.gd (v := .d (.val (.int .i64 (x_9.2)))) (T := []) (some 48) rfl rfl (by repeat (first | exact trivial | refine ⟨fun q => by first | rfl | exact q | exact cda q | exact cdb q, ?_⟩)) (fun hg => sf_move (v := .d (.val (.int .i64 (x_9.2)))) rfl rfl g3) nm0 ?_
  refine RQ.gd (v := .d (.val (.bool (decide ((x_9.2) = (0 : Int)))))) (T := []) (some 49) rfl rfl (by repeat (first | exact trivial | refine ⟨fun q => by first | rfl | exact q | exact cda q | exact cdb q, ?_⟩)) (fun hg => sf_eq (a := (x_9.2)) (b := (0 : Int)) rfl rfl rfl g3) nm0 ?_
  refine RQ.st (some 50) rfl rfl (sf_pickA rfl rfl rfl rfl (fun hb => by rw [hb]; rfl) (fun _ => rfl) ⟨⟨rfl, rfl⟩, ?_⟩)
  refine RQ.st (some 51) rfl rfl (sf_move (v := .d (.val (.bool ((((((x_3.1 == ([194, 49, 97] : List UInt8)) && (decide ((x_3.2) = (0 : Int)))) && (decide ((x_5.2) = (0 : Int)))) && x_13) && (x_9.1 == (([198, 130, 0, 35] : List UInt8) ++ x_3.1))) && (decide ((x_9.2) = (0 : Int))))))) rfl rfl ⟨⟨rfl, rfl⟩, ?_⟩)
  refine RQ.gd (v := .d (.val (sV (x_3.1)))) (T := []) (some 52) rfl rfl (by repeat (first | exact trivial | refine ⟨fun q => by first | rfl | exact q | exact cda q | exact cdb q, ?_⟩)) (fun hg => sf_move (v := .d (.val (sV (x_3.1)))) rfl rfl g3) nm0 ?_
  obtain ⟨x_16, hx_17, h⟩ := bO h
  refine RQ.gd (v := .d (.val (.bool x_16))) (T := []) (some 53) rfl rfl (by repeat (first | exact trivial | refine ⟨fun q => by first | rfl | exact q | exact cda q | exact cdb q, ?_⟩)) (fun hg => sf_call rfl rfl TT.enters_47 rfl (sim_node_Reference (x_3.1) _ (bT hx_17 hg)) g3) nm0 ?_
  refine RQ.st (some 54) rfl rfl (sf_pickA rfl rfl rfl rfl (fun hb => by rw [hb]; rfl) (fun _ => rfl) ⟨⟨rfl, rfl⟩, ?_⟩)
  refine RQ.st (some 55) rfl rfl (sf_move (v := .d (.val (.bool (((((((x_3.1 == ([194, 49, 97] : List UInt8)) && (decide ((x_3.2) = (0 : Int)))) && (decide ((x_5.2) = (0 : Int)))) && x_13) && (x_9.1 == (([198, 130, 0, 35] : List UInt8) ++ x_3.1))) && (decide ((x_9.2) = (0 : Int)))) && x_16)))) rfl rfl ⟨⟨rfl, rfl⟩, ?_⟩)
  obtain ⟨x_18, hx_19, h⟩ := bO h
  refine RQ.gd (v := .d (.val (.bool x_18))) (T := []) (some 56) rfl rfl (by repeat (first | exact trivial | refine ⟨fun q => by first | rfl | exact q | exact cda q | exact cdb q, ?_⟩)) (fun hg => sf_call rfl rfl TT.enters_47 rfl (sim_node_Reference ([120] : List UInt8) _ (bT hx_19 hg)) g3) nm0 ?_
  refine RQ.gd (v := .d (.val (.bool (!x_18)))) (T := []) (some 57) rfl rfl (by repeat (first | exact trivial | refine ⟨fun q => by first | rfl | exact q | exact cda q | exact cdb q, ?_⟩)) (fun hg => sf_not rfl rfl g3) nm0 ?_
  refine RQ.st (some 58) rfl rfl (sf_pickA rfl rfl rfl rfl (fun hb => by rw [hb]; rfl) (fun _ => rfl) ⟨⟨rfl, rfl⟩, ?_⟩)
  refine RQ.st (some 59) rfl rfl (sf_move (v := .d (.val (.bool ((((((((x_3.1 == ([194, 49, 97] : List UInt8)) && (decide ((x_3.2) = (0 : Int)))) && (decide ((x_5.2) = (0 : Int)))) && x_13) && (x_9.1 == (([198, 130, 0, 35] : List UInt8) ++ x_3.1))) && (decide ((x_9.2) = (0 : Int)))) && x_16) && (!x_18))))) rfl rfl ⟨⟨rfl, rfl⟩, ?_⟩)
  refine RQ.gd (v := .full (([(1 : UInt8)] : List UInt8).map byteD)) (T := []) (some 60) rfl rfl (by repeat (first | exact trivial | refine ⟨fun q => by first | rfl | exact q | exact cda q | exact cdb q, ?_⟩)) (fun hg => sf_row (en := byteD) (l := ([(1 : UInt8)] : List UInt8)) rfl TT.rowA_49 lay_byte rfl rfl (by decide) (by simp [solids, partsP, evP, ofVal, PV.solid, putS_at, tab, unS, unT, unC, asCond, Value.oneCell']) g3) nm0 ?_
  refine RQ.gd (v := .d (.val (sV (x_3.1)))) (T := []) (some 61) rfl rfl (by repeat (first | exact trivial | refine ⟨fun q => by first | rfl | exact q | exact cda q | exact cdb q, ?_⟩)) (fun hg => sf_move (v := .d (.val (sV (x_3.1)))) rfl rfl g3) nm0 ?_
  obtain ⟨x_20, hx_21, h⟩ := bO h
  refine RQ.gd (v := .d (.agg (cNode x_20))) (T := []) (some 62) rfl rfl (by repeat (first | exact trivial | refine ⟨fun q => by first | rfl | exact q | exact cda q | exact cdb q, ?_⟩)) (fun hg => sf_call rfl rfl TT.enters_42 rfl (sim_node_Ext ([(1 : UInt8)] : List UInt8) (x_3.1) _ (bT hx_21 hg)) g3) nm0 ?_
  obtain ⟨x_22, hx_23, h⟩ := bO h
  refine RQ.gd (v := .d (.slice (x_22.map eS))) (T := []) (some 63) rfl rfl (by repeat (first | exact trivial | refine ⟨fun q => by first | rfl | exact q | exact cda q | exact cdb q, ?_⟩)) (fun hg => sf_call rfl rfl TT.enters_45 rfl (sim_node_Kids x_20 _ (bT hx_23 hg)) g3) nm0 ?_
  refine RQ.gd (v := .d (.val (.int .i64 (x_22.length : Int)))) (T := []) (some 64) rfl rfl (by repeat (first | exact trivial | refine ⟨fun q => by first | rfl | exact q | exact cda q | exact cdb q, ?_⟩)) (fun hg => sf_lenL (en := eS) (l := x_22) rfl TT.under_62 rfl g3) nm0 ?_
  refine RQ.gd (v := .d (.val (.bool (decide ((x_22.length : Int) = (1 : Int)))))) (T := []) (some 65) rfl rfl (by repeat (first | exact trivial | refine ⟨fun q => by first | rfl | exact q | exact cda q | exact cdb q, ?_⟩)) (fun hg => sf_eq (a := (x_22.length : Int)) (b := (1 : Int)) rfl rfl rfl g3) nm0 ?_
  refine RQ.st (some 66) rfl rfl (sf_pickA rfl rfl rfl rfl (fun hb => by rw [hb]; rfl) (fun _ => rfl) ⟨⟨rfl, rfl⟩, ?_⟩)
  refine RQ.st (some 0) rfl rfl (sf_assign (v := .d (.val (.bool (((((((((x_3.1 == ([194, 49, 97] : List UInt8)) && (decide ((x_3.2) = (0 : Int)))) && (decide ((x_5.2) = (0 : Int)))) && x_13) && (x_9.1 == (([198, 130, 0, 35] : List UInt8) ++ x_3.1))) && (decide ((x_9.2) = (0 : Int)))) && x_16) && (!x_18)) && (decide ((x_22.length : Int) = (1 : Int))))))) rfl rfl ⟨⟨rfl, rfl⟩, ?_⟩)
  refine RQ.nil (nrm ?_)
  refine QW.ret (Nat.zero_le _) ?_
  obtain rfl := sO h
  exact Ends.one (.inr rfl) rfl (ResIs.tmp rfl) rfl rfl
noncomputable def g_law06_NodePuts (n0 : Node) : Option Bool :=
    ((g_law06_Light n0).bind fun (x_1 : Bool) =>
    (bif (!x_1) then
    ((g_law06_awake ).bind fun (x_4 : Bool) =>
    some x_4)
    else
    ((g_node_Put n0).bind fun (x_6 : ((List UInt8) × Int)) =>
    ((g_ref06_May n0).bind fun (x_8 : Bool) =>
    ((g_node_Check n0).bind fun (x_10 : Int) =>
    (bif (!((decide (x_10 = (0 : Int))) == x_8)) then
    some false
    else
    (bif (!x_8) then
    ((g_law06_awake ).bind fun (x_14 : Bool) =>
    some ((x_14 && (x_6.1 == ([] : List UInt8))) && (decide ((x_6.2) = (2 : Int)))))
    else
    ((g_node_Get (x_6.1)).bind fun (x_16 : (Node × Int)) =>
    ((g_law06_awake ).bind fun (x_18 : Bool) =>
    ((bif ((x_18 && (decide ((x_6.2) = (0 : Int)))) == true) then g_ref06_Put n0 else some default).bind fun (x_20 : (List UInt8)) =>
    ((bif ((((x_18 && (decide ((x_6.2) = (0 : Int)))) && (x_6.1 == x_20)) && (decide ((x_16.2) = (0 : Int)))) == true) then g_ref06_Same (x_16.1) n0 else some default).bind fun (x_22 : Bool) =>
    some ((((x_18 && (decide ((x_6.2) = (0 : Int)))) && (x_6.1 == x_20)) && (decide ((x_16.2) = (0 : Int)))) && x_22))))))))))))
set_option maxRecDepth 20000 in
set_option maxHeartbeats 4000000 in
theorem sim_law06_NodePuts (n0 : Node) (r : Bool) (h : g_law06_NodePuts n0 = some r) : Fun Try.prog 6 [.agg (cNode n0)] (.val (.bool r)) := by
  refine Fun.of_bodyQ Try.func6 rfl (by simp [Try.ntmps6]) ?_
  rw [Try.ntmps6, TT.res_6]
  refine QW.view (s' := ⟨tab [(0, .d (.agg (cNode n0)))], tabH [], 0, []⟩) (View.init (by rfl)) (Nat.zero_le _) ?_
  unfold g_law06_NodePuts at h
  refine QW.seq ?_
  refine QW.region (Nat.zero_le _) (PW.regT (by kernel_rfl) ?_)
  refine XK.fz (some 1) rfl rfl (sf_boxF (ds := cNode n0) rfl rfl rfl rfl toDs_map ?_)
  refine XK.st (some 2) rfl rfl (sf_assign (v := .d (.val (.bool false))) rfl rfl ?_)
  refine XK.nz ?_
  refine QW.seq ?_
  refine QW.seq ?_
  refine QW.region (Nat.zero_le _) (PW.regT (by kernel_rfl) ?_)
  refine XK.st (some 8) rfl rfl (sf_ldC (d := .agg (cNode n0)) rfl TT.tyA_52 rfl (⟨by rw [lay_Node.len]; decide, congrArg D.agg (List.take_of_length_le (by rw [lay_Node.len]; decide))⟩) ?_)
  obtain ⟨x_1, hx_2, h⟩ := bO h
  refine XK.st (some 9) rfl rfl (sf_call rfl rfl TT.enters_32 rfl (sim_law06_Light n0 _ hx_2) ?_)
  refine XK.st (some 10) rfl rfl (sf_not rfl rfl ?_)
  refine XK.nz ?_
  refine QW.cond (t := (!x_1)) rfl (Nat.zero_le _) (fun hb_3 => ?_) (fun hb_3 => ?_)
  · replace h := bT h hb_3
    refine QW.seq ?_
    refine QW.region (Nat.zero_le _) (PW.regT (by kernel_rfl) ?_)
    obtain ⟨x_4, hx_5, h⟩ := bO h
    refine XK.st (some 11) rfl rfl (sf_call rfl rfl TT.enters_33 rfl (sim_law06_awake  _ hx_5) ?_)
    refine XK.st (some 2) rfl rfl (sf_assign (v := .d (.val (.bool x_4))) rfl rfl ?_)
    refine XK.nz ?_
    refine QW.ret (Nat.zero_le _) (thR ?_)
    obtain rfl := sO h
    exact Ends.one (.inr rfl) rfl (ResIs.tmp rfl) rfl rfl
  · replace h := bF h hb_3
    refine QW.skip (Nat.zero_le _) (nrm ?_)
    refine QW.seq ?_
    refine QW.region (Nat.zero_le _) (PW.regT (by kernel_rfl) ?_)
    refine XK.st (some 13) rfl rfl (sf_ldC (d := .agg (cNode n0)) rfl TT.tyA_52 rfl (⟨by rw [lay_Node.len]; decide, congrArg D.agg (List.take_of_length_le (by rw [lay_Node.len]; decide))⟩) ?_)
    obtain ⟨x_6, hx_7, h⟩ := bO h
    refine XK.st (some 14) rfl rfl (sf_call rfl rfl TT.enters_34 rfl (sim_node_Put n0 _ hx_7) ?_)
    refine XK.st (some 12) rfl rfl (sf_move (v := .d (.tuple [.val (sV (x_6.1)), .val (.int .i64 (x_6.2))])) rfl rfl ?_)
    refine XK.st (some 15) rfl rfl (sf_extract rfl rfl rfl ?_)
    refine XK.st (some 16) rfl rfl (sf_extract rfl rfl rfl ?_)
    refine XK.st (some 3) rfl rfl (sf_assign (v := .d (.val (sV (x_6.1)))) rfl rfl ?_)
    refine XK.st (some 4) rfl rfl (sf_assign (v := .d (.val (.int .i64 (x_6.2)))) rfl rfl ?_)
    refine XK.nz ?_
    refine QW.seq ?_
    refine QW.region (Nat.zero_le _) (PW.regT (by kernel_rfl) ?_)
    refine XK.st (some 17) rfl rfl (sf_ldC (d := .agg (cNode n0)) rfl TT.tyA_52 rfl (⟨by rw [lay_Node.len]; decide, congrArg D.agg (List.take_of_length_le (by rw [lay_Node.len]; decide))⟩) ?_)
    obtain ⟨x_8, hx_9, h⟩ := bO h
    refine XK.st (some 18) rfl rfl (sf_call rfl rfl TT.enters_35 rfl (sim_ref06_May n0 _ hx_9) ?_)
    refine XK.st (some 5) rfl rfl (sf_assign (v := .d (.val (.bool x_8))) rfl rfl ?_)
    refine XK.nz ?_
    refine QW.seq ?_
    refine QW.seq ?_
    refine QW.region (Nat.zero_le _) (PW.regT (by kernel_rfl) ?_)
    refine XK.st (some 19) rfl rfl (sf_ldC (d := .agg (cNode n0)) rfl TT.tyA_52 rfl (⟨by rw [lay_Node.len]; decide, congrArg D.agg (List.take_of_length_le (by rw [lay_Node.len]; decide))⟩) ?_)
    obtain ⟨x_10, hx_11, h⟩ := bO h
    refine XK.st (some 20) rfl rfl (sf_call rfl rfl TT.enters_36 rfl (sim_node_Check n0 _ hx_11) ?_)
    refine XK.st (some 21) rfl rfl (sf_eq (a := x_10) (b := (0 : Int)) rfl rfl rfl ?_)
    refine XK.st (some 22) rfl rfl (sf_move (v := .d (.val (.bool x_8))) rfl rfl ?_)
    refine XK.st (some 23) rfl rfl (sf_bne (a := (decide (x_10 = (0 : Int)))) (b := x_8) rfl TT.under_4 rfl rfl ?_)
    refine XK.nz ?_
    refine QW.cond (t := (!((decide (x_10 = (0 : Int))) == x_8))) rfl (Nat.zero_le _) (fun hb_12 => ?_) (fun hb_12 => ?_)
    · replace h := bT h hb_12
      refine QW.seq ?_
      refine QW.region (Nat.zero_le _) (PW.regT (by kernel_rfl) ?_)
      refine XK.st (some 2) rfl rfl (sf_assign (v := .d (.val (.bool false))) rfl rfl ?_)
      refine XK.nz ?_
      refine QW.ret (Nat.zero_le _) (thR ?_)
      obtain rfl := sO h
      exact Ends.one (.inr rfl) rfl (ResIs.tmp rfl) rfl rfl
    · replace h := bF h hb_12
      refine QW.skip (Nat.zero_le _) (nrm ?_)
      refine QW.seq ?_
      refine QW.seq ?_
      refine QW.region (Nat.zero_le _) (PW.regT (by kernel_rfl) ?_)
      refine XK.st (some 24) rfl rfl (sf_move (v := .d (.val (.bool x_8))) rfl rfl ?_)
      refine XK.st (some 25) rfl rfl (sf_not rfl rfl ?_)
      refine XK.nz ?_
      refine QW.cond (t := (!x_8)) rfl (Nat.zero_le _) (fun hb_13 => ?_) (fun hb_13 => ?_)
      · replace h := bT h hb_13
        refine QW.seq ?_
        refine QW.region (Nat.zero_le _) (PW.regT (by kernel_rfl) ?_)
        obtain ⟨x_14, hx_15, h⟩ := bO h
        refine XK.st (some 26) rfl rfl (sf_call rfl rfl TT.enters_33 rfl (sim_law06_awake  _ hx_15) ?_)
        refine XK.st (some 27) rfl rfl (sf_move (v := .d (.val (.bool x_14))) rfl rfl ?_)
        refine XK.gd (v := .d (.val (sV (x_6.1)))) (T := []) (some 28) rfl rfl (by repeat (first | exact trivial | refine ⟨fun q => by first | rfl | exact q | exact cda q | exact cdb q, ?_⟩)) (fun hg => sf_move (v := .d (.val (sV (x_6.1)))) rfl rfl g3) nm0 ?_
        refine XK.gd (v := .d (.val (.bool (x_6.1 == ([] : List UInt8))))) (T := []) (some 29) rfl rfl (by repeat (first | exact trivial | refine ⟨fun q => by first | rfl | exact q | exact cda q | exact cdb q, ?_⟩)) (fun hg => sf_seq (a := x_6.1) (b := ([] : List UInt8)) rfl rfl rfl g3) nm0 ?_
        refine XK.st (some 30) rfl rfl (sf_pickA rfl rfl rfl rfl (fun hb => by rw [hb]; rfl) (fun _ => rfl) ?_)
        refine XK.st (some 31) rfl rfl (sf_move (v := .d (.val (.bool (x_14 && (x_6.1 == ([] : List UInt8)))))) rfl rfl ?_)
        refine XK.gd (v := .d (.val (.int .i64 (x_6.2)))) (T := []) (some 32) rfl rfl (by repeat (first | exact trivial | refine ⟨fun q => by first | rfl | exact q | exact cda q | exact cdb q, ?_⟩)) (fun hg => sf_move (v := .d (.val (.int .i64 (x_6.2)))) rfl rfl g3) nm0 ?_
        refine XK.gd (v := .d (.val (.bool (decide ((x_6.2) = (2 : Int)))))) (T := []) (some 33) rfl rfl (by repeat (first | exact trivial | refine ⟨fun q => by first | rfl | exact q | exact cda q | exact cdb q, ?_⟩)) (fun hg => sf_eq (a := (x_6.2)) (b := (2 : Int)) rfl rfl rfl g3) nm0 ?_
        refine XK.st (some 34) rfl rfl (sf_pickA rfl rfl rfl rfl (fun hb => by rw [hb]; rfl) (fun _ => rfl) ?_)
        refine XK.st (some 2) rfl rfl (sf_assign (v := .d (.val (.bool ((x_14 && (x_6.1 == ([] : List UInt8))) && (decide ((x_6.2) = (2 : Int))))))) rfl rfl ?_)
        refine XK.nz ?_
        refine QW.ret (Nat.zero_le _) (thR ?_)
        obtain rfl := sO h
        exact Ends.one (.inr rfl) rfl (ResIs.tmp rfl) rfl rfl
      · replace h := bF h hb_13
        refine QW.skip (Nat.zero_le _) (nrm ?_)
        refine QW.seq ?_
        refine QW.region (Nat.zero_le _) (PW.regT (by kernel_rfl) ?_)
        refine XK.st (some 36) rfl rfl (sf_move (v := .d (.val (sV (x_6.1)))) rfl rfl ?_)
        obtain ⟨x_16, hx_17, h⟩ := bO h
        refine XK.st (some 37) rfl rfl (sf_call rfl rfl TT.enters_37 rfl (sim_node_Get (x_6.1) _ hx_17) ?_)
        refine XK.st (some 35) rfl rfl (sf_move (v := .d (.tuple [.agg (cNode (x_16.1)), .val (.int .i64 (x_16.2))])) rfl rfl ?_)
        refine XK.st (some 38) rfl rfl (sf_extract rfl rfl rfl ?_)
        refine XK.st (some 39) rfl rfl (sf_extract rfl rfl rfl ?_)
        refine XK.st (some 6) rfl rfl (sf_alloc (l := (([.d (.val (.int .i64 (0))), .full (([] : (List UInt8)).map byteD), .d (.val (sV ([] : List UInt8)))]) ++ (((Arr.rep 16 ([] : (List UInt8))).1.map eS).map PV.d))) rfl TT.zeroA_52 rfl rfl ?_)
        refine XK.st none rfl rfl (sf_stV (c := (([.d (.val (.int .i64 ((x_16.1).fKind))), .d (.slice (((x_16.1).fPath).map byteD)), .d (.val (sV ((x_16.1).fValue)))]) ++ ((((x_16.1).fKids).1.map eS).map PV.d))) (l' := (([.d (.val (.int .i64 ((x_16.1).fKind))), .d (.slice (((x_16.1).fPath).map byteD)), .d (.val (sV ((x_16.1).fValue)))]) ++ ((((x_16.1).fKids).1.map eS).map PV.d))) rfl TT.tyA_52 rfl rfl rfl rfl (show (cNode (x_16.1)).map PV.d = _ by simp only [cNode, List.map_append]; rfl) (len_app (A := [.d (.val (.int .i64 ((x_16.1).fKind))), .d (.slice (((x_16.1).fPath).map byteD)), .d (.val (sV ((x_16.1).fValue)))]) (b := 16) rfl (len_map2 _) rfl) (le_of_len (len_app (A := [.d (.val (.int .i64 (0))), .full (([] : (List UInt8)).map byteD), .d (.val (sV ([] : List UInt8)))]) (b := 16) rfl (len_map2 _) rfl) (Nat.le_of_ble_eq_true rfl)) (spl_same ((len_app (A := [.d (.val (.int .i64 (0))), .full (([] : (List UInt8)).map byteD), .d (.val (sV ([] : List UInt8)))]) (b := 16) rfl (len_map2 _) rfl).trans (len_app (A := [.d (.val (.int .i64 ((x_16.1).fKind))), .d (.slice (((x_16.1).fPath).map byteD)), .d (.val (sV ((x_16.1).fValue)))]) (b := 16) rfl (len_map2 _) rfl).symm)) ?_)
        refine XK.st (some 7) rfl rfl (sf_assign (v := .d (.val (.int .i64 (x_16.2)))) rfl rfl ?_)
        refine XK.nz ?_
        refine QW.seq ?_
        refine QW.region (Nat.zero_le _) (PW.regT (by kernel_rfl) ?_)
        obtain ⟨x_18, hx_19, h⟩ := bO h
        refine XK.st (some 40) rfl rfl (sf_call rfl rfl TT.enters_33 rfl (sim_law06_awake  _ hx_19) ?_)
        refine XK.st (some 41) rfl rfl (sf_move (v := .d (.val (.bool x_18))) rfl rfl ?_)
        refine XK.gd (v := .d (.val (.int .i64 (x_6.2)))) (T := []) (some 42) rfl rfl (by repeat (first | exact trivial | refine ⟨fun q => by first | rfl | exact q | exact cda q | exact cdb q, ?_⟩)) (fun hg => sf_move (v := .d (.val (.int .i64 (x_6.2)))) rfl rfl g3) nm0 ?_
        refine XK.gd (v := .d (.val (.bool (decide ((x_6.2) = (0 : Int)))))) (T := []) (some 43) rfl rfl (by repeat (first | exact trivial | refine ⟨fun q => by first | rfl | exact q | exact cda q | exact cdb q, ?_⟩)) (fun hg => sf_eq (a := (x_6.2)) (b := (0 : Int)) rfl rfl rfl g3) nm0 ?_
        refine XK.st (some 44) rfl rfl (sf_pickA rfl rfl rfl rfl (fun hb => by rw [hb]; rfl) (fun _ => rfl) ?_)
        refine XK.st (some 45) rfl rfl (sf_move (v := .d (.val (.bool (x_18 && (decide ((x_6.2) = (0 : Int))))))) rfl rfl ?_)
        refine XK.gd (v := .d (.val (sV (x_6.1)))) (T := []) (some 46) rfl rfl (by repeat (first | exact trivial | refine ⟨fun q => by first | rfl | exact q | exact cda q | exact cdb q, ?_⟩)) (fun hg => sf_move (v := .d (.val (sV (x_6.1)))) rfl rfl g3) nm0 ?_
        refine XK.gd (v := .d (.agg (cNode n0))) (T := []) (some 47) rfl rfl (by repeat (first | exact trivial | refine ⟨fun q => by first | rfl | exact q | exact cda q | exact cdb q, ?_⟩)) (fun hg => sf_ldC (d := .agg (cNode n0)) rfl TT.tyA_52 rfl (⟨by rw [lay_Node.len]; decide, congrArg D.agg (List.take_of_length_le (by rw [lay_Node.len]; decide))⟩) g3) nm0 ?_
        obtain ⟨x_20, hx_21, h⟩ := bO h
        refine XK.gd (v := .d (.val (sV x_20))) (T := []) (some 48) rfl rfl (by repeat (first | exact trivial | refine ⟨fun q => by first | rfl | exact q | exact cda q | exact cdb q, ?_⟩)) (fun hg => sf_call rfl rfl TT.enters_38 rfl (sim_ref06_Put n0 _ (bT hx_21 hg)) g3) nm0 ?_
        refine XK.gd (v := .d (.val (.bool (x_6.1 == x_20)))) (T := []) (some 49) rfl rfl (by repeat (first | exact trivial | refine ⟨fun q => by first | rfl | exact q | exact cda q | exact cdb q, ?_⟩)) (fun hg => sf_seq (a := x_6.1) (b := x_20) rfl rfl rfl g3) nm0 ?_
        refine XK.st (some 50) rfl rfl (sf_pickA rfl rfl rfl rfl (fun hb => by rw [hb]; rfl) (fun _ => rfl) ?_)
        refine XK.st (some 51) rfl rfl (sf_move (v := .d (.val (.bool ((x_18 && (decide ((x_6.2) = (0 : Int)))) && (x_6.1 == x_20))))) rfl rfl ?_)
        refine XK.gd (v := .d (.val (.int .i64 (x_16.2)))) (T := []) (some 52) rfl rfl (by repeat (first | exact trivial | refine ⟨fun q => by first | rfl | exact q | exact cda q | exact cdb q, ?_⟩)) (fun hg => sf_move (v := .d (.val (.int .i64 (x_16.2)))) rfl rfl g3) nm0 ?_
        refine XK.gd (v := .d (.val (.bool (decide ((x_16.2) = (0 : Int)))))) (T := []) (some 53) rfl rfl (by repeat (first | exact trivial | refine ⟨fun q => by first | rfl | exact q | exact cda q | exact cdb q, ?_⟩)) (fun hg => sf_eq (a := (x_16.2)) (b := (0 : Int)) rfl rfl rfl g3) nm0 ?_
        refine XK.st (some 54) rfl rfl (sf_pickA rfl rfl rfl rfl (fun hb => by rw [hb]; rfl) (fun _ => rfl) ?_)
        refine XK.st (some 55) rfl rfl (sf_move (v := .d (.val (.bool (((x_18 && (decide ((x_6.2) = (0 : Int)))) && (x_6.1 == x_20)) && (decide ((x_16.2) = (0 : Int))))))) rfl rfl ?_)
        refine XK.gd (v := .d (.agg (cNode (x_16.1)))) (T := [0]) (some 56) rfl rfl (by repeat (first | exact trivial | refine ⟨fun q => by first | rfl | exact q | exact cda q | exact cdb q, ?_⟩)) (fun hg => sf_ldV (v := .agg (([.d (.val (.int .i64 ((x_16.1).fKind))), .d (.slice (((x_16.1).fPath).map byteD)), .d (.val (sV ((x_16.1).fValue)))]) ++ ((((x_16.1).fKids).1.map eS).map PV.d))) rfl TT.tyA_52 rfl rfl (ldv_whole (len_app (A := [.d (.val (.int .i64 ((x_16.1).fKind))), .d (.slice (((x_16.1).fPath).map byteD)), .d (.val (sV ((x_16.1).fValue)))]) (b := 16) rfl (len_map2 _) rfl) (Nat.succ_pos _)) ⟨⟨rfl, rfl, rfl⟩, rfl, (Imp.toD (toD_agg (toDs_app rfl toDs_map)))⟩) (fun _ i hi => by simp only [List.mem_singleton] at hi; subst hi; decide) ?_
        refine XK.gd (v := .d (.agg (cNode n0))) (T := []) (some 57) rfl rfl (by repeat (first | exact trivial | refine ⟨fun q => by first | rfl | exact q | exact cda q | exact cdb q, ?_⟩)) (fun hg => sf_ldC (d := .agg (cNode n0)) rfl TT.tyA_52 rfl (⟨by rw [lay_Node.len]; decide, congrArg D.agg (List.take_of_length_le (by rw [lay_Node.len]; decide))⟩) g3) nm0 ?_
        obtain ⟨x_22, hx_23, h⟩ := bO h
        refine XK.gd (v := .d (.val (.bool x_22))) (T := []) (some 58) rfl rfl (by repeat (first | exact trivial | refine ⟨fun q => by first | rfl | exact q | exact cda q | exact cdb q, ?_⟩)) (fun hg => sf_call rfl rfl TT.enters_39 rfl (sim_ref06_Same (x_16.1) n0 _ (bT hx_23 hg)) g3) nm0 ?_
        refine XK.st (some 59) rfl rfl (sf_pickA rfl rfl rfl rfl (fun hb => by rw [hb]; rfl) (fun _ => rfl) ?_)
        refine XK.st (some 2) rfl rfl (sf_assign (v := .d (.val (.bool ((((x_18 && (decide ((x_6.2) = (0 : Int)))) && (x_6.1 == x_20)) && (decide ((x_16.2) = (0 : Int)))) && x_22)))) rfl rfl ?_)
        refine XK.nz ?_
        refine QW.ret (Nat.zero_le _) ?_
        obtain rfl := sO h
        exact Ends.one (.inr rfl) rfl (ResIs.tmp rfl) rfl rfl
noncomputable def g_law06_NodeGets (s0 : (List UInt8)) : Option Bool :=
    (bif (decide ((1500 : Int) < (s0.length : Int))) then
    ((g_law06_awake ).bind fun (x_2 : Bool) =>
    some x_2)
    else
    ((g_node_Get s0).bind fun (x_4 : (Node × Int)) =>
    ((g_ref06_Get s0).bind fun (x_6 : (Node × Bool)) =>
    (bif (!(x_6).2) then
    ((g_law06_awake ).bind fun (x_9 : Bool) =>
    ((bif ((x_9 && (!decide ((x_4.2) = (0 : Int)))) == true) then g_ref06_Same (x_4.1) (⟨0, ([] : (List UInt8)), ([] : List UInt8), (Arr.rep 16 ([] : (List UInt8)))⟩ : Node) else some default).bind fun (x_11 : Bool) =>
    some ((x_9 && (!decide ((x_4.2) = (0 : Int)))) && x_11)))
    else
    ((g_law06_awake ).bind fun (x_13 : Bool) =>
    ((bif ((x_13 && (decide ((x_4.2) = (0 : Int)))) == true) then g_ref06_Same (x_4.1) (x_6.1) else some default).bind fun (x_15 : Bool) =>
    ((bif (((x_13 && (decide ((x_4.2) = (0 : Int)))) && x_15) == true) then g_ref06_Put (x_4.1) else some default).bind fun (x_17 : (List UInt8)) =>
    some (((x_13 && (decide ((x_4.2) = (0 : Int)))) && x_15) && (x_17 == s0)))))))))
set_option maxRecDepth 20000 in
set_option maxHeartbeats 4000000 in
theorem sim_law06_NodeGets (s0 : (List UInt8)) (r : Bool) (h : g_law06_NodeGets s0 = some r) : Fun Try.prog 7 [.val (sV s0)] (.val (.bool r)) := by
  refine Fun.of_bodyQ Try.func7 rfl (by simp [Try.ntmps7]) ?_
  rw [Try.ntmps7, TT.res_7]
  refine QW.view (s' := ⟨tab [(0, .d (.val (sV s0)))], tabH [], 0, []⟩) (View.init (by rfl)) (Nat.zero_le _) ?_
  unfold g_law06_NodeGets at h
  refine QW.seq ?_
  refine QW.region (Nat.zero_le _) (PW.regT (by kernel_rfl) ?_)
  refine XK.st (some 2) rfl rfl (sf_assign (v := .d (.val (.bool false))) rfl rfl ?_)
  refine XK.nz ?_
  refine QW.seq ?_
  refine QW.seq ?_
  refine QW.region (Nat.zero_le _) (PW.regT (by kernel_rfl) ?_)
  refine XK.st (some 7) rfl rfl (sf_move (v := .d (.val (sV s0))) rfl rfl ?_)
  refine XK.st (some 8) rfl rfl (sf_lenS (l := s0) rfl TT.under_9 rfl ?_)
  refine XK.st (some 9) rfl rfl (sf_gtr (a := (s0.length : Int)) (b := (1500 : Int)) rfl rfl rfl ?_)
  refine XK.nz ?_
  refine QW.cond (t := (decide ((1500 : Int) < (s0.length : Int)))) rfl (Nat.zero_le _) (fun hb_1 => ?_) (fun hb_1 => ?_)
  · replace h := bT h hb_1
    refine QW.seq ?_
    refine QW.region (Nat.zero_le _) (PW.regT (by kernel_rfl) ?_)
    obtain ⟨x_2, hx_3, h⟩ := bO h
    refine XK.st (some 10) rfl rfl (sf_call rfl rfl TT.enters_33 rfl (sim_law06_awake  _ hx_3) ?_)
    refine XK.st (some 2) rfl rfl (sf_assign (v := .d (.val (.bool x_2))) rfl rfl ?_)
    refine XK.nz ?_
    refine QW.ret (Nat.zero_le _) (thR ?_)
    obtain rfl := sO h
    exact Ends.one (.inr rfl) rfl (ResIs.tmp rfl) rfl rfl
  · replace h := bF h hb_1
    refine QW.skip (Nat.zero_le _) (nrm ?_)
    refine QW.seq ?_
    refine QW.region (Nat.zero_le _) (PW.regT (by kernel_rfl) ?_)
    refine XK.st (some 12) rfl rfl (sf_move (v := .d (.val (sV s0))) rfl rfl ?_)
    obtain ⟨x_4, hx_5, h⟩ := bO h
    refine XK.st (some 13) rfl rfl (sf_call rfl rfl TT.enters_37 rfl (sim_node_Get s0 _ hx_5) ?_)
    refine XK.st (some 11) rfl rfl (sf_move (v := .d (.tuple [.agg (cNode (x_4.1)), .val (.int .i64 (x_4.2))])) rfl rfl ?_)
    refine XK.st (some 14) rfl rfl (sf_extract rfl rfl rfl ?_)
    refine XK.st (some 15) rfl rfl (sf_extract rfl rfl rfl ?_)
    refine XK.st (some 3) rfl rfl (sf_alloc (l := (([.d (.val (.int .i64 (0))), .full (([] : (List UInt8)).map byteD), .d (.val (sV ([] : List UInt8)))]) ++ (((Arr.rep 16 ([] : (List UInt8))).1.map eS).map PV.d))) rfl TT.zeroA_52 rfl rfl ?_)
    refine XK.st none rfl rfl (sf_stV (c := (([.d (.val (.int .i64 ((x_4.1).fKind))), .d (.slice (((x_4.1).fPath).map byteD)), .d (.val (sV ((x_4.1).fValue)))]) ++ ((((x_4.1).fKids).1.map eS).map PV.d))) (l' := (([.d (.val (.int .i64 ((x_4.1).fKind))), .d (.slice (((x_4.1).fPath).map byteD)), .d (.val (sV ((x_4.1).fValue)))]) ++ ((((x_4.1).fKids).1.map eS).map PV.d))) rfl TT.tyA_52 rfl rfl rfl rfl (show (cNode (x_4.1)).map PV.d = _ by simp only [cNode, List.map_append]; rfl) (len_app (A := [.d (.val (.int .i64 ((x_4.1).fKind))), .d (.slice (((x_4.1).fPath).map byteD)), .d (.val (sV ((x_4.1).fValue)))]) (b := 16) rfl (len_map2 _) rfl) (le_of_len (len_app (A := [.d (.val (.int .i64 (0))), .full (([] : (List UInt8)).map byteD), .d (.val (sV ([] : List UInt8)))]) (b := 16) rfl (len_map2 _) rfl) (Nat.le_of_ble_eq_true rfl)) (spl_same ((len_app (A := [.d (.val (.int .i64 (0))), .full (([] : (List UInt8)).map byteD), .d (.val (sV ([] : List UInt8)))]) (b := 16) rfl (len_map2 _) rfl).trans (len_app (A := [.d (.val (.int .i64 ((x_4.1).fKind))), .d (.slice (((x_4.1).fPath).map byteD)), .d (.val (sV ((x_4.1).fValue)))]) (b := 16) rfl (len_map2 _) rfl).symm)) ?_)
    refine XK.st (some 4) rfl rfl (sf_assign (v := .d (.val (.int .i64 (x_4.2)))) rfl rfl ?_)
    refine XK.nz ?_
    refine QW.seq ?_
    refine QW.region (Nat.zero_le _) (PW.regT (by kernel_rfl) ?_)
    refine XK.st (some 17) rfl rfl (sf_move (v := .d (.val (sV s0))) rfl rfl ?_)
    obtain ⟨x_6, hx_7, h⟩ := bO h
    refine XK.st (some 18) rfl rfl (sf_call rfl rfl TT.enters_40 rfl (sim_ref06_Get s0 _ hx_7) ?_)
    refine XK.st (some 16) rfl rfl (sf_move (v := .d (.tuple [.agg (cNode (x_6.1)), .val (.bool (x_6.2))])) rfl rfl ?_)
    refine XK.st (some 19) rfl rfl (sf_extract rfl rfl rfl ?_)
    refine XK.st (some 20) rfl rfl (sf_extract rfl rfl rfl ?_)
    refine XK.st (some 5) rfl rfl (sf_alloc (l := (([.d (.val (.int .i64 (0))), .full (([] : (List UInt8)).map byteD), .d (.val (sV ([] : List UInt8)))]) ++ (((Arr.rep 16 ([] : (List UInt8))).1.map eS).map PV.d))) rfl TT.zeroA_52 rfl rfl ?_)
    refine XK.st none rfl rfl (sf_stV (c := (([.d (.val (.int .i64 ((x_6.1).fKind))), .d (.slice (((x_6.1).fPath).map byteD)), .d (.val (sV ((x_6.1).fValue)))]) ++ ((((x_6.1).fKids).1.map eS).map PV.d))) (l' := (([.d (.val (.int .i64 ((x_6.1).fKind))), .d (.slice (((x_6.1).fPath).map byteD)), .d (.val (sV ((x_6.1).fValue)))]) ++ ((((x_6.1).fKids).1.map eS).map PV.d))) rfl TT.tyA_52 rfl rfl rfl rfl (show (cNode (x_6.1)).map PV.d = _ by simp only [cNode, List.map_append]; rfl) (len_app (A := [.d (.val (.int .i64 ((x_6.1).fKind))), .d (.slice (((x_6.1).fPath).map byteD)), .d (.val (sV ((x_6.1).fValue)))]) (b := 16) rfl (len_map2 _) rfl) (le_of_len (len_app (A := [.d (.val (.int .i64 (0))), .full (([] : (List UInt8)).map byteD), .d (.val (sV ([] : List UInt8)))]) (b := 16) rfl (len_map2 _) rfl) (Nat.le_of_ble_eq_true rfl)) (spl_same ((len_app (A := [.d (.val (.int .i64 (0))), .full (([] : (List UInt8)).map byteD), .d (.val (sV ([] : List UInt8)))]) (b := 16) rfl (len_map2 _) rfl).trans (len_app (A := [.d (.val (.int .i64 ((x_6.1).fKind))), .d (.slice (((x_6.1).fPath).map byteD)), .d (.val (sV ((x_6.1).fValue)))]) (b := 16) rfl (len_map2 _) rfl).symm)) ?_)
    refine XK.st (some 6) rfl rfl (sf_assign (v := .d (.val (.bool (x_6.2)))) rfl rfl ?_)
    refine XK.nz ?_
    refine QW.seq ?_
    refine QW.seq ?_
    refine QW.view (s' := ⟨tab [(0, .d (.val (sV s0))), (3, .vptr 0 0), (4, .d (.val (.int .i64 (x_4.2)))), (5, .vptr 1 0), (6, .d (.val (.bool (x_6.2))))], tabH [.var (([.d (.val (.int .i64 ((x_4.1).fKind))), .d (.slice (((x_4.1).fPath).map byteD)), .d (.val (sV ((x_4.1).fValue)))]) ++ ((((x_4.1).fKids).1.map eS).map PV.d)), .var (([.d (.val (.int .i64 ((x_6.1).fKind))), .d (.slice (((x_6.1).fPath).map byteD)), .d (.val (sV ((x_6.1).fValue)))]) ++ ((((x_6.1).fKids).1.map eS).map PV.d))], 2, []⟩) (View.mk 2 [0, 1] _ _ _ rfl rfl (by decide) (And.intro (Imp.of_eq rfl) (And.intro (Imp.of_eq rfl) (And.intro (Imp.of_eq rfl) (And.intro (Imp.of_eq rfl) (And.intro (Imp.of_eq rfl) trivial))))) (And.intro (by simp only [atH1, res_app, PV.res_d]; rfl) (And.intro (by simp only [atH1, res_app, PV.res_d]; rfl) trivial)) rfl (Nat.zero_le _) rfl) (Nat.zero_le _) ?_
    refine QW.region (Nat.zero_le _) (PW.regT (by kernel_rfl) ?_)
    refine XK.st (some 21) rfl rfl (sf_move (v := .d (.val (.bool (x_6.2)))) rfl rfl ?_)
    refine XK.st (some 22) rfl rfl (sf_not rfl rfl ?_)
    refine XK.nz ?_
    refine QW.cond (t := (!(x_6).2)) rfl (Nat.zero_le _) (fun hb_8 => ?_) (fun hb_8 => ?_)
    · replace h := bT h hb_8
      refine QW.seq ?_
      refine QW.region (Nat.zero_le _) (PW.regT (by kernel_rfl) ?_)
      obtain ⟨x_9, hx_10, h⟩ := bO h
      refine XK.st (some 23) rfl rfl (sf_call rfl rfl TT.enters_33 rfl (sim_law06_awake  _ hx_10) ?_)
      refine XK.st (some 24) rfl rfl (sf_move (v := .d (.val (.bool x_9))) rfl rfl ?_)
      refine XK.gd (v := .d (.val (.int .i64 (x_4.2)))) (T := []) (some 25) rfl rfl (by repeat (first | exact trivial | refine ⟨fun q => by first | rfl | exact q | exact cda q | exact cdb q, ?_⟩)) (fun hg => sf_move (v := .d (.val (.int .i64 (x_4.2)))) rfl rfl g3) nm0 ?_
      refine XK.gd (v := .d (.val (.bool (!decide ((x_4.2) = (0 : Int)))))) (T := []) (some 26) rfl rfl (by repeat (first | exact trivial | refine ⟨fun q => by first | rfl | exact q | exact cda q | exact cdb q, ?_⟩)) (fun hg => sf_ne (a := (x_4.2)) (b := (0 : Int)) rfl rfl rfl g3) nm0 ?_
      refine XK.st (some 27) rfl rfl (sf_pickA rfl rfl rfl rfl (fun hb => by rw [hb]; rfl) (fun _ => rfl) ?_)
      refine XK.st (some 28) rfl rfl (sf_move (v := .d (.val (.bool (x_9 && (!decide ((x_4.2) = (0 : Int))))))) rfl rfl ?_)
      refine XK.gd (v := .d (.agg (cNode (x_4.1)))) (T := [0]) (some 29) rfl rfl (by repeat (first | exact trivial | refine ⟨fun q => by first | rfl | exact q | exact cda q | exact cdb q, ?_⟩)) (fun hg => sf_ldV (v := .agg (([.d (.val (.int .i64 ((x_4.1).fKind))), .d (.slice (((x_4.1).fPath).map byteD)), .d (.val (sV ((x_4.1).fValue)))]) ++ ((((x_4.1).fKids).1.map eS).map PV.d))) rfl TT.tyA_52 rfl rfl (ldv_whole (len_app (A := [.d (.val (.int .i64 ((x_4.1).fKind))), .d (.slice (((x_4.1).fPath).map byteD)), .d (.val (sV ((x_4.1).fValue)))]) (b := 16) rfl (len_map2 _) rfl) (Nat.succ_pos _)) ⟨⟨rfl, rfl, rfl⟩, rfl, (Imp.toD (toD_agg (toDs_app rfl toDs_map)))⟩) (fun _ i hi => by simp only [List.mem_singleton] at hi; subst hi; decide) ?_
      refine XK.gd (v := .d (.agg (cNode (⟨0, ([] : (List UInt8)), ([] : List UInt8), (Arr.rep 16 ([] : (List UInt8)))⟩ : Node)))) (T := []) (some 30) rfl rfl (by repeat (first | exact trivial | refine ⟨fun q => by first | rfl | exact q | exact cda q | exact cdb q, ?_⟩)) (fun hg => sf_bld (v := .agg (([.d (.val (.int .i64 (0))), .full (([] : (List UInt8)).map byteD), .d (.val (sV ([] : List UInt8)))]) ++ (((Arr.rep 16 ([] : (List UInt8))).1.map eS).map PV.d))) rfl TT.bldA_52 (build_of rfl fill_nil) ⟨⟨rfl, rfl, rfl⟩, rfl, (Imp.toD (toD_agg (toDs_app rfl toDs_map)))⟩) nm0 ?_
      obtain ⟨x_11, hx_12, h⟩ := bO h
      refine XK.gd (v := .d (.val (.bool x_11))) (T := []) (some 31) rfl rfl (by repeat (first | exact trivial | refine ⟨fun q => by first | rfl | exact q | exact cda q | exact cdb q, ?_⟩)) (fun hg => sf_call rfl rfl TT.enters_39 rfl (sim_ref06_Same (x_4.1) (⟨0, ([] : (List UInt8)), ([] : List UInt8), (Arr.rep 16 ([] : (List UInt8)))⟩ : Node) _ (bT hx_12 hg)) g3) nm0 ?_
      refine XK.st (some 32) rfl rfl (sf_pickA rfl rfl rfl rfl (fun hb => by rw [hb]; rfl) (fun _ => rfl) ?_)
      refine XK.st (some 2) rfl rfl (sf_assign (v := .d (.val (.bool ((x_9 && (!decide ((x_4.2) = (0 : Int)))) && x_11)))) rfl rfl ?_)
      refine XK.nz ?_
      refine QW.ret (Nat.zero_le _) (thR ?_)
      obtain rfl := sO h
      exact Ends.one (.inr rfl) rfl (ResIs.tmp rfl) rfl rfl
    · replace h := bF h hb_8
      refine QW.skip (Nat.zero_le _) (nrm ?_)
      refine QW.seq ?_
      refine QW.region (Nat.zero_le _) (PW.regT (by kernel_rfl) ?_)
      obtain ⟨x_13, hx_14, h⟩ := bO h
      refine XK.st (some 33) rfl rfl (sf_call rfl rfl TT.enters_33 rfl (sim_law06_awake  _ hx_14) ?_)
      refine XK.st (some 34) rfl rfl (sf_move (v := .d (.val (.bool x_13))) rfl rfl ?_)
      refine XK.gd (v := .d (.val (.int .i64 (x_4.2)))) (T := []) (some 35) rfl rfl (by repeat (first | exact trivial | refine ⟨fun q => by first | rfl | exact q | exact cda q | exact cdb q, ?_⟩)) (fun hg => sf_move (v := .d (.val (.int .i64 (x_4.2)))) rfl rfl g3) nm0 ?_
      refine XK.gd (v := .d (.val (.bool (decide ((x_4.2) = (0 : Int)))))) (T := []) (some 36) rfl rfl (by repeat (first | exact trivial | refine ⟨fun q => by first | rfl | exact q | exact cda q | exact cdb q, ?_⟩)) (fun hg => sf_eq (a := (x_4.2)) (b := (0 : Int)) rfl rfl rfl g3) nm0 ?_
      refine XK.st (some 37) rfl rfl (sf_pickA rfl rfl rfl rfl (fun hb => by rw [hb]; rfl) (fun _ => rfl) ?_)
      refine XK.st (some 38) rfl rfl (sf_move (v := .d (.val (.bool (x_13 && (decide ((x_4.2) = (0 : Int))))))) rfl rfl ?_)
      refine XK.gd (v := .d (.agg (cNode (x_4.1)))) (T := [0]) (some 39) rfl rfl (by repeat (first | exact trivial | refine ⟨fun q => by first | rfl | exact q | exact cda q | exact cdb q, ?_⟩)) (fun hg => sf_ldV (v := .agg (([.d (.val (.int .i64 ((x_4.1).fKind))), .d (.slice (((x_4.1).fPath).map byteD)), .d (.val (sV ((x_4.1).fValue)))]) ++ ((((x_4.1).fKids).1.map eS).map PV.d))) rfl TT.tyA_52 rfl rfl (ldv_whole (len_app (A := [.d (.val (.int .i64 ((x_4.1).fKind))), .d (.slice (((x_4.1).fPath).map byteD)), .d (.val (sV ((x_4.1).fValue)))]) (b := 16) rfl (len_map2 _) rfl) (Nat.succ_pos _)) ⟨⟨rfl, rfl, rfl⟩, rfl, (Imp.toD (toD_agg (toDs_app rfl toDs_map)))⟩) (fun _ i hi => by simp only [List.mem_singleton] at hi; subst hi; decide) ?_
      refine XK.gd (v := .d (.agg (cNode (x_6.1)))) (T := [1]) (some 40) rfl rfl (by repeat (first | exact trivial | refine ⟨fun q => by first | rfl | exact q | exact cda q | exact cdb q, ?_⟩)) (fun hg => sf_ldV (v := .agg (([.d (.val (.int .i64 ((x_6.1).fKind))), .d (.slice (((x_6.1).fPath).map byteD)), .d (.val (sV ((x_6.1).fValue)))]) ++ ((((x_6.1).fKids).1.map eS).map PV.d))) rfl TT.tyA_52 rfl rfl (ldv_whole (len_app (A := [.d (.val (.int .i64 ((x_6.1).fKind))), .d (.slice (((x_6.1).fPath).map byteD)), .d (.val (sV ((x_6.1).fValue)))]) (b := 16) rfl (len_map2 _) rfl) (Nat.succ_pos _)) ⟨⟨rfl, rfl, rfl⟩, rfl, (Imp.toD (toD_agg (toDs_app rfl toDs_map)))⟩) (fun _ i hi => by simp only [List.mem_singleton] at hi; subst hi; decide) ?_
      obtain ⟨x_15, hx_16, h⟩ := bO h
      refine XK.gd (v := .d (.val (.bool x_15))) (T := []) (some 41) rfl rfl (by repeat (first | exact trivial | refine ⟨fun q => by first | rfl | exact q | exact cda q | exact cdb q, ?_⟩)) (fun hg => sf_call rfl rfl TT.enters_39 rfl (sim_ref06_Same (x_4.1) (x_6.1) _ (bT hx_16 hg)) g3) nm0 ?_
      refine XK.st (some 42) rfl rfl (sf_pickA rfl rfl rfl rfl (fun hb => by rw [hb]; rfl) (fun _ => rfl) ?_)
      refine XK.st (some 43) rfl rfl (sf_move (v := .d (.val (.bool ((x_13 && (decide ((x_4.2) = (0 : Int)))) && x_15)))) rfl rfl ?_)
      refine XK.gd (v := .d (.agg (cNode (x_4.1)))) (T := [0]) (some 44) rfl rfl (by repeat (first | exact trivial | refine ⟨fun q => by first | rfl | exact q | exact cda q | exact cdb q, ?_⟩)) (fun hg => sf_ldV (v := .agg (([.d (.val (.int .i64 ((x_4.1).fKind))), .d (.slice (((x_4.1).fPath).map byteD)), .d (.val (sV ((x_4.1).fValue)))]) ++ ((((x_4.1).fKids).1.map eS).map PV.d))) rfl TT.tyA_52 rfl rfl (ldv_whole (len_app (A := [.d (.val (.int .i64 ((x_4.1).fKind))), .d (.slice (((x_4.1).fPath).map byteD)), .d (.val (sV ((x_4.1).fValue)))]) (b := 16) rfl (len_map2 _) rfl) (Nat.succ_pos _)) ⟨⟨rfl, rfl, rfl⟩, rfl, (Imp.toD (toD_agg (toDs_app rfl toDs_map)))⟩) (fun _ i hi => by simp only [List.mem_singleton] at hi; subst hi; decide) ?_
      obtain ⟨x_17, hx_18, h⟩ := bO h
      refine XK.gd (v := .d (.val (sV x_17))) (T := []) (some 45) rfl rfl (by repeat (first | exact trivial | refine ⟨fun q => by first | rfl | exact q | exact cda q | exact cdb q, ?_⟩)) (fun hg => sf_call rfl rfl TT.enters_38 rfl (sim_ref06_Put (x_4.1) _ (bT hx_18 hg)) g3) nm0 ?_
      refine XK.gd (v := .d (.val (sV s0))) (T := []) (some 46) rfl rfl (by repeat (first | exact trivial | refine ⟨fun q => by first | rfl | exact q | exact cda q | exact cdb q, ?_⟩)) (fun hg => sf_move (v := .d (.val (sV s0))) rfl rfl g3) nm0 ?_
      refine XK.gd (v := .d (.val (.bool (x_17 == s0)))) (T := []) (some 47) rfl rfl (by repeat (first | exact trivial | refine ⟨fun q => by first | rfl | exact q | exact cda q | exact cdb q, ?_⟩)) (fun hg => sf_seq (a := x_17) (b := s0) rfl rfl rfl g3) nm0 ?_
      refine XK.st (some 48) rfl rfl (sf_pickA rfl rfl rfl rfl (fun hb => by rw [hb]; rfl) (fun _ => rfl) ?_)
      refine XK.st (some 2) rfl rfl (sf_assign (v := .d (.val (.bool (((x_13 && (decide ((x_4.2) = (0 : Int)))) && x_15) && (x_17 == s0))))) rfl rfl ?_)
      refine XK.nz ?_
      refine QW.ret (Nat.zero_le _) ?_
      obtain rfl := sO h
      exact Ends.one (.inr rfl) rfl (ResIs.tmp rfl) rfl rfl
inductive C_law06_NodeParts where
  | S
  | L1 (v7_2 : (List (List UInt8))) (v8 : Int)
noncomputable def step_law06_NodeParts (a0 : Node) (b1 : Node) (s2 : (List UInt8)) : C_law06_NodeParts → Option (C_law06_NodeParts ⊕ Bool)
  | .S =>
    ((g_law06_Light a0).bind fun (x_1 : Bool) =>
    ((bif ((!x_1) == false) then g_law06_Light b1 else some default).bind fun (x_3 : Bool) =>
    (bif (((!x_1) || (!x_3)) || (decide ((200 : Int) < (s2.length : Int)))) then
    ((g_law06_awake ).bind fun (x_6 : Bool) =>
    some (.inr x_6))
    else
    some (.inl (.L1 ([] : (List (List UInt8))) (0))))))
  | .L1 v7_2 v8 =>
    (bif (decide (v8 < (16 : Int))) then
    ((gO (0 ≤ v8 ∧ v8 < ((16 : Nat) : Int)) (
    (bif (!((idx (a0.fKids).1 v8) == ([] : List UInt8))) then
    gO (0 ≤ v8 ∧ v8 < ((16 : Nat) : Int)) (
    gO ((v7_2.length + ([(idx (a0.fKids).1 v8)] : List (List UInt8)).length) * 16 ≤ 140737488355328) (
    some (v7_2 ++ ([(idx (a0.fKids).1 v8)] : List (List UInt8)))))
    else
    some v7_2)) : Option (List (List UInt8))).bind fun (v7_4 : (List (List UInt8))) =>
    gO (inI (v8 + (1 : Int))) (
    some (.inl (.L1 v7_4 (v8 + (1 : Int))))))
    else
    ((g_node_Leaf (a0.fPath) (a0.fValue)).bind fun (x_15 : Node) =>
    ((g_node_Ext (a0.fPath) s2).bind fun (x_17 : Node) =>
    ((g_node_Branch (a0.fKids)).bind fun (x_19 : Node) =>
    ((g_ref06_Same x_15 (⟨1, a0.fPath, a0.fValue, (Arr.rep 16 ([] : (List UInt8)))⟩ : Node)).bind fun (x_21 : Bool) =>
    ((bif ((((x_21 && (decide ((x_17.fKind) = (2 : Int)))) && (x_17.fPath == a0.fPath)) && ((idx (x_17.fKids).1 (0 : Int)) == s2)) == true) then g_ref06_Same x_19 (⟨3, ([] : (List UInt8)), ([] : List UInt8), a0.fKids⟩ : Node) else some default).bind fun (x_23 : Bool) =>
    ((g_law06_awake ).bind fun (x_25 : Bool) =>
    ((bif ((x_25 && ((((x_21 && (decide ((x_17.fKind) = (2 : Int)))) && (x_17.fPath == a0.fPath)) && ((idx (x_17.fKids).1 (0 : Int)) == s2)) && x_23)) == true) then g_node_Kids a0 else some default).bind fun (x_27 : (List (List UInt8))) =>
    ((bif ((x_25 && ((((x_21 && (decide ((x_17.fKind) = (2 : Int)))) && (x_17.fPath == a0.fPath)) && ((idx (x_17.fKids).1 (0 : Int)) == s2)) && x_23)) == true) then g_ref01_Same x_27 v7_2 else some default).bind fun (x_29 : Bool) =>
    ((bif (((x_25 && ((((x_21 && (decide ((x_17.fKind) = (2 : Int)))) && (x_17.fPath == a0.fPath)) && ((idx (x_17.fKids).1 (0 : Int)) == s2)) && x_23)) && x_29) == true) then g_node_Same a0 b1 else some default).bind fun (x_31 : Bool) =>
    ((bif (((x_25 && ((((x_21 && (decide ((x_17.fKind) = (2 : Int)))) && (x_17.fPath == a0.fPath)) && ((idx (x_17.fKids).1 (0 : Int)) == s2)) && x_23)) && x_29) == true) then g_ref06_Same a0 b1 else some default).bind fun (x_33 : Bool) =>
    ((bif ((((x_25 && ((((x_21 && (decide ((x_17.fKind) = (2 : Int)))) && (x_17.fPath == a0.fPath)) && ((idx (x_17.fKids).1 (0 : Int)) == s2)) && x_23)) && x_29) && (x_31 == x_33)) == true) then g_node_Reference s2 else some default).bind fun (x_35 : Bool) =>
    ((bif ((((x_25 && ((((x_21 && (decide ((x_17.fKind) = (2 : Int)))) && (x_17.fPath == a0.fPath)) && ((idx (x_17.fKids).1 (0 : Int)) == s2)) && x_23)) && x_29) && (x_31 == x_33)) == true) then g_ref06_Reference s2 else some default).bind fun (x_37 : Bool) =>
    some (.inr ((((x_25 && ((((x_21 && (decide ((x_17.fKind) = (2 : Int)))) && (x_17.fPath == a0.fPath)) && ((idx (x_17.fKids).1 (0 : Int)) == s2)) && x_23)) && x_29) && (x_31 == x_33)) && (x_35 == x_37))))))))))))))))
noncomputable def g_law06_NodeParts (a0 : Node) (b1 : Node) (s2 : (List UInt8)) : Option Bool := theC (step_law06_NodeParts a0 b1 s2) .S
set_option maxRecDepth 20000 in
set_option maxHeartbeats 4000000 in
theorem sim_law06_NodeParts (a0 : Node) (b1 : Node) (s2 : (List UInt8)) (r : Bool) (h : g_law06_NodeParts a0 b1 s2 = some r) : Fun Try.prog 8 [.agg (cNode a0), .agg (cNode b1), .val (sV s2)] (.val (.bool r)) := by
  refine Fun.of_bodyQ Try.func8 rfl (by simp [Try.ntmps8]) ?_
  rw [Try.ntmps8, TT.res_8]
  refine QW.view (s' := ⟨tab [(0, .d (.agg (cNode a0))), (1, .d (.agg (cNode b1))), (2, .d (.val (sV s2)))], tabH [], 0, []⟩) (View.init (by rfl)) (Nat.zero_le _) ?_
  replace h := theC_get h
  obtain ⟨_, h⟩ := h
  obtain ⟨k_0, rfl, h9⟩ := run_succ h; replace h := h9; clear h9; rw [step_law06_NodeParts] at h
  refine QW.seq ?_
  refine QW.region (Nat.zero_le _) (PW.regT (by kernel_rfl) ?_)
  refine XK.fz (some 3) rfl rfl (sf_boxF (ds := cNode a0) rfl rfl rfl rfl toDs_map ?_)
  refine XK.fz (some 4) rfl rfl (sf_boxF (ds := cNode b1) rfl rfl rfl rfl toDs_map ?_)
  refine XK.st (some 6) rfl rfl (sf_assign (v := .d (.val (.bool false))) rfl rfl ?_)
  refine XK.nz ?_
  refine QW.seq ?_
  refine QW.seq ?_
  refine QW.region (Nat.zero_le _) (PW.regT (by kernel_rfl) ?_)
  refine XK.st (some 13) rfl rfl (sf_ldC (d := .agg (cNode a0)) rfl TT.tyA_52 rfl (⟨by rw [lay_Node.len]; decide, congrArg D.agg (List.take_of_length_le (by rw [lay_Node.len]; decide))⟩) ?_)
  obtain ⟨x_1, hx_2, h⟩ := bG h
  refine XK.st (some 14) rfl rfl (sf_call rfl rfl TT.enters_32 rfl (sim_law06_Light a0 _ hx_2) ?_)
  refine XK.st (some 15) rfl rfl (sf_not rfl rfl ?_)
  refine XK.st (some 16) rfl rfl (sf_move (v := .d (.val (.bool (!x_1)))) rfl rfl ?_)
  refine XK.gd (v := .d (.agg (cNode b1))) (T := []) (some 17) rfl rfl (by repeat (first | exact trivial | refine ⟨fun q => by first | rfl | exact q | exact cda q | exact cdb q, ?_⟩)) (fun hg => sf_ldC (d := .agg (cNode b1)) rfl TT.tyA_52 rfl (⟨by rw [lay_Node.len]; decide, congrArg D.agg (List.take_of_length_le (by rw [lay_Node.len]; decide))⟩) g3) nm0 ?_
  obtain ⟨x_3, hx_4, h⟩ := bG h
  refine XK.gd (v := .d (.val (.bool x_3))) (T := []) (some 18) rfl rfl (by repeat (first | exact trivial | refine ⟨fun q => by first | rfl | exact q | exact cda q | exact cdb q, ?_⟩)) (fun hg => sf_call rfl rfl TT.enters_32 rfl (sim_law06_Light b1 _ (bT hx_4 hg)) g3) nm0 ?_
  refine XK.gd (v := .d (.val (.bool (!x_3)))) (T := []) (some 19) rfl rfl (by repeat (first | exact trivial | refine ⟨fun q => by first | rfl | exact q | exact cda q | exact cdb q, ?_⟩)) (fun hg => sf_not rfl rfl g3) nm0 ?_
  refine XK.st (some 20) rfl rfl (sf_pickO rfl rfl rfl rfl (fun _ => rfl) (fun hb => by rw [hb]; rfl) ?_)
  refine XK.st (some 21) rfl rfl (sf_move (v := .d (.val (.bool ((!x_1) || (!x_3))))) rfl rfl ?_)
  refine XK.gd (v := .d (.val (sV s2))) (T := []) (some 22) rfl rfl (by repeat (first | exact trivial | refine ⟨fun q => by first | rfl | exact q | exact cda q | exact cdb q, ?_⟩)) (fun hg => sf_move (v := .d (.val (sV s2))) rfl rfl g3) nm0 ?_
  refine XK.gd (v := .d (.val (.int .i64 (s2.length : Int)))) (T := []) (some 23) rfl rfl (by repeat (first | exact trivial | refine ⟨fun q => by first | rfl | exact q | exact cda q | exact cdb q, ?_⟩)) (fun hg => sf_lenS (l := s2) rfl TT.under_9 rfl g3) nm0 ?_
  refine XK.gd (v := .d (.val (.bool (decide ((200 : Int) < (s2.length : Int)))))) (T := []) (some 24) rfl rfl (by repeat (first | exact trivial | refine ⟨fun q => by first | rfl | exact q | exact cda q | exact cdb q, ?_⟩)) (fun hg => sf_gtr (a := (s2.length : Int)) (b := (200 : Int)) rfl rfl rfl g3) nm0 ?_
  refine XK.st (some 25) rfl rfl (sf_pickO rfl rfl rfl rfl (fun _ => rfl) (fun hb => by rw [hb]; rfl) ?_)
  refine XK.nz ?_
  refine QW.cond (t := (((!x_1) || (!x_3)) || (decide ((200 : Int) < (s2.length : Int))))) rfl (Nat.zero_le _) (fun hb_5 => ?_) (fun hb_5 => ?_)
  · replace h := bGT h hb_5
    refine QW.seq ?_
    refine QW.region (Nat.zero_le _) (PW.regT (by kernel_rfl) ?_)
    obtain ⟨x_6, hx_7, h⟩ := bG h
    refine XK.st (some 26) rfl rfl (sf_call rfl rfl TT.enters_33 rfl (sim_law06_awake  _ hx_7) ?_)
    refine XK.st (some 6) rfl rfl (sf_assign (v := .d (.val (.bool x_6))) rfl rfl ?_)
    refine XK.nz ?_
    refine QW.ret (Nat.zero_le _) (thR ?_)
    obtain rfl := sG h
    exact Ends.one (.inr rfl) rfl (ResIs.tmp rfl) rfl rfl
  · replace h := bGF h hb_5
    refine QW.skip (Nat.zero_le _) (nrm ?_)
    refine QW.seq ?_
    refine QW.region (Nat.zero_le _) (PW.regT (by kernel_rfl) ?_)
    refine XK.st (some 7) rfl rfl (sf_assign (v := .full (([] : (List (List UInt8))).map eS)) rfl rfl ?_)
    refine XK.nz ?_
    refine QW.seq ?_
    refine QW.seq ?_
    refine QW.region (Nat.zero_le _) (PW.regT (by kernel_rfl) ?_)
    refine XK.st (some 8) rfl rfl (sf_assign (v := .d (.val (.int .i64 (0)))) rfl rfl ?_)
    refine XK.nz ?_
    refine QW.block ?_
    refine QW.loop (fun k σ => ∃ v7_2 : (List (List UInt8)), ∃ v8 : Int, k ≤ k_0 ∧ run (step_law06_NodeParts a0 b1 s2) k (.L1 v7_2 v8) = some r ∧ σ = ⟨tab [(2, .d (.val (sV s2))), (3, .d (.cptr (cNode a0))), (4, .d (.cptr (cNode b1))), (7, .own 0 (v7_2.map eS)), (8, .d (.val (.int .i64 v8)))], tabH [.spare 1 v7_2.length], 1, []⟩) k_0 (Nat.zero_le _) ⟨⟨tab [(2, .d (.val (sV s2))), (3, .d (.cptr (cNode a0))), (4, .d (.cptr (cNode b1))), (7, .own 0 (([] : (List (List UInt8))).map eS)), (8, .d (.val (.int .i64 (0))))], tabH [.spare 1 ([] : (List (List UInt8))).length], 1, []⟩, View.trans (View.buf 7 1 rfl (Nat.zero_le _)) (View.mk 1 [0] _ _ _ rfl rfl (by decide) (And.intro (Imp.of_eq rfl) (And.intro (Imp.of_eq rfl) (And.intro (Imp.of_eq rfl) (And.intro (Imp.of_eq rfl) (And.intro (Imp.of_eq rfl) trivial))))) (And.intro rfl trivial) rfl (Nat.zero_le _) rfl), ([] : (List (List UInt8))), 0, Nat.le_refl _, jG h, rfl⟩ ?_
    rintro k_8s _ ⟨v7_2, v8, k_8h, h, rfl⟩
    obtain ⟨k_8, rfl, h9⟩ := run_succ h; replace h := h9; clear h9; rw [step_law06_NodeParts] at h
    refine QW.seq ?_
    refine QW.seq ?_
    refine QW.region (Nat.zero_le _) (PW.regT (by kernel_rfl) ?_)
    refine XK.st (some 27) rfl rfl (sf_move (v := .d (.val (.int .i64 v8))) rfl rfl ?_)
    refine XK.st (some 28) rfl rfl (sf_lss (a := v8) (b := (16 : Int)) rfl rfl rfl ?_)
    refine XK.nz ?_
    refine QW.cond (t := (decide (v8 < (16 : Int)))) rfl (Nat.zero_le _) (fun hb_9 => ?_) (fun hb_9 => ?_)
    · replace h := bGT h hb_9
      refine QW.skip (Nat.zero_le _) (nrm ?_)
      obtain ⟨v7_4, hq, h⟩ := bG h
      refine QW.seqI (fun s' => s' = ⟨tab [(2, .d (.val (sV s2))), (3, .d (.cptr (cNode a0))), (4, .d (.cptr (cNode b1))), (7, .own 0 (v7_4.map eS)), (8, .d (.val (.int .i64 v8)))], tabH [.spare 1 v7_4.length], 1, []⟩) ?_ ?_
      · replace h := hq; clear hq
        refine QW.block ?_
        refine QW.seq ?_
        refine QW.region (Nat.zero_le _) (PW.regT (by kernel_rfl) ?_)
        refine XK.st (some 31) rfl rfl (sf_move (v := .d (.val (.int .i64 v8))) rfl rfl ?_)
        refine XK.st (some 32) rfl rfl (sf_fldC rfl TT.fldA_52_3 (by decide) rfl ?_)
        obtain ⟨c_10, h⟩ := gO_get h
        refine XK.st (some 33) rfl rfl (sf_idxC (i := v8) rfl TT.slcA_50 TT.arrA_50 rfl rfl c_10 ?_)
        refine XK.st (some 34) rfl rfl (sf_ldC (d := .val (sV (idx (a0.fKids).1 v8))) rfl TT.tyA_9 rfl (ld_arr (pre_Node_3 _) c_10) ?_)
        refine XK.st (some 35) rfl rfl (sf_sne (a := (idx (a0.fKids).1 v8)) (b := ([] : List UInt8)) rfl rfl rfl ?_)
        refine XK.nz ?_
        refine QW.cond (t := (!((idx (a0.fKids).1 v8) == ([] : List UInt8)))) rfl (Nat.zero_le _) (fun hb_11 => ?_) (fun hb_11 => ?_)
        · replace h := bT h hb_11
          refine QW.region (Nat.zero_le _) (PW.regT (by kernel_rfl) ?_)
          refine XK.st (some 36) rfl rfl (sf_move (v := .own 0 (v7_2.map eS)) rfl rfl ?_)
          refine XK.st (some 37) rfl rfl (sf_move (v := .d (.val (.int .i64 v8))) rfl rfl ?_)
          refine XK.st (some 38) rfl rfl (sf_fldC rfl TT.fldA_52_3 (by decide) rfl ?_)
          obtain ⟨c_12, h⟩ := gO_get h
          refine XK.st (some 39) rfl rfl (sf_idxC (i := v8) rfl TT.slcA_50 TT.arrA_50 rfl rfl c_12 ?_)
          refine XK.st (some 40) rfl rfl (sf_ldC (d := .val (sV (idx (a0.fKids).1 v8))) rfl TT.tyA_9 rfl (ld_arr (pre_Node_3 _) c_12) ?_)
          refine XK.st (some 41) rfl rfl (sf_row (en := eS) (l := ([(idx (a0.fKids).1 v8)] : List (List UInt8))) rfl TT.rowA_62 lay_S rfl rfl (by decide) (by simp [solids, partsP, evP, ofVal, PV.solid, putS_at, tab, unS, unT, unC, asCond, Value.oneCell']) ?_)
          obtain ⟨c_13, h⟩ := gO_get h
          refine XK.st (some 42) rfl rfl (sf_appO (en := eS) (l := v7_2) (l2 := ([(idx (a0.fKids).1 v8)] : List (List UInt8))) rfl TT.rowA_62 TT.under_62 rfl lay_S rfl rfl rfl c_13 (by decide) ?_)
          refine XK.st (some 7) rfl rfl (sf_assign (v := .own 1 ((v7_2 ++ ([(idx (a0.fKids).1 v8)] : List (List UInt8))).map eS)) rfl rfl ?_)
          refine XK.nil (blN (nrm ?_))
          obtain rfl := sO h
          exact ⟨⟨tab [(2, .d (.val (sV s2))), (3, .d (.cptr (cNode a0))), (4, .d (.cptr (cNode b1))), (7, .own 0 ((v7_2 ++ ([(idx (a0.fKids).1 v8)] : List (List UInt8))).map eS)), (8, .d (.val (.int .i64 v8)))], tabH [.spare 1 (v7_2 ++ ([(idx (a0.fKids).1 v8)] : List (List UInt8))).length], 1, []⟩, View.mk 1 [1] _ _ _ rfl rfl (by decide) (And.intro (Imp.of_eq rfl) (And.intro (Imp.of_eq rfl) (And.intro (Imp.of_eq rfl) (And.intro (Imp.of_eq rfl) (And.intro (Imp.of_eq rfl) trivial))))) (And.intro rfl trivial) rfl (Nat.zero_le _) rfl, rfl⟩
        · replace h := bF h hb_11
          refine QW.skip (Nat.zero_le _) (blN (nrm ?_))
          obtain rfl := sO h
          exact ⟨⟨tab [(2, .d (.val (sV s2))), (3, .d (.cptr (cNode a0))), (4, .d (.cptr (cNode b1))), (7, .own 0 (v7_2.map eS)), (8, .d (.val (.int .i64 v8)))], tabH [.spare 1 v7_2.length], 1, []⟩, View.mk 1 [0] _ _ _ rfl rfl (by decide) (And.intro (Imp.of_eq rfl) (And.intro (Imp.of_eq rfl) (And.intro (Imp.of_eq rfl) (And.intro (Imp.of_eq rfl) (And.intro (Imp.of_eq rfl) trivial))))) (And.intro rfl trivial) rfl (Nat.zero_le _) rfl, rfl⟩
      · rintro _ rfl
        refine QW.region (Nat.zero_le _) (PW.regT (by kernel_rfl) ?_)
        refine XK.st (some 29) rfl rfl (sf_move (v := .d (.val (.int .i64 v8))) rfl rfl ?_)
        obtain ⟨c_14, h⟩ := gG h
        refine XK.st (some 30) rfl rfl (sf_add (a := v8) (b := (1 : Int)) rfl rfl rfl c_14 ?_)
        refine XK.st (some 8) rfl rfl (sf_assign (v := .d (.val (.int .i64 (v8 + (1 : Int))))) rfl rfl ?_)
        refine XK.nz ?_
        exact ⟨k_8, by omega, ⟨tab [(2, .d (.val (sV s2))), (3, .d (.cptr (cNode a0))), (4, .d (.cptr (cNode b1))), (7, .own 0 (v7_4.map eS)), (8, .d (.val (.int .i64 (v8 + (1 : Int)))))], tabH [.spare 1 v7_4.length], 1, []⟩, View.mk 1 [0] _ _ _ rfl rfl (by decide) (And.intro (Imp.of_eq rfl) (And.intro (Imp.of_eq rfl) (And.intro (Imp.of_eq rfl) (And.intro (Imp.of_eq rfl) (And.intro (Imp.of_eq rfl) trivial))))) (And.intro rfl trivial) rfl (Nat.zero_le _) rfl, v7_4, (v8 + (1 : Int)), by omega, jG h, rfl⟩
    · replace h := bGF h hb_9
      refine QW.exit (Nat.zero_le _) (thX (thX (exE (nrm ?_))))
      refine QW.seq ?_
      refine QW.region (Nat.zero_le _) (PW.regT (by kernel_rfl) ?_)
      refine XK.st (some 43) rfl rfl (sf_fldC rfl TT.fldA_52_1 (by decide) rfl ?_)
      refine XK.st (some 44) rfl rfl (sf_ldC (d := .slice ((a0.fPath).map byteD)) rfl TT.tyA_49 rfl (ldc_Node_1 _) ?_)
      refine XK.st (some 45) rfl rfl (sf_fldC rfl TT.fldA_52_2 (by decide) rfl ?_)
      refine XK.st (some 46) rfl rfl (sf_ldC (d := .val (sV (a0.fValue))) rfl TT.tyA_9 rfl (ldc_Node_2 _) ?_)
      obtain ⟨x_15, hx_16, h⟩ := bG h
      refine XK.st (some 47) rfl rfl (sf_call rfl rfl TT.enters_41 rfl (sim_node_Leaf (a0.fPath) (a0.fValue) _ hx_16) ?_)
      refine XK.st (some 9) rfl rfl (sf_alloc (l := (([.d (.val (.int .i64 (0))), .full (([] : (List UInt8)).map byteD), .d (.val (sV ([] : List UInt8)))]) ++ (((Arr.rep 16 ([] : (List UInt8))).1.map eS).map PV.d))) rfl TT.zeroA_52 rfl rfl ?_)
      refine XK.st none rfl rfl (sf_stV (c := (([.d (.val (.int .i64 (x_15.fKind))), .d (.slice ((x_15.fPath).map byteD)), .d (.val (sV (x_15.fValue)))]) ++ (((x_15.fKids).1.map eS).map PV.d))) (l' := (([.d (.val (.int .i64 (x_15.fKind))), .d (.slice ((x_15.fPath).map byteD)), .d (.val (sV (x_15.fValue)))]) ++ (((x_15.fKids).1.map eS).map PV.d))) rfl TT.tyA_52 rfl rfl rfl rfl (show (cNode x_15).map PV.d = _ by simp only [cNode, List.map_append]; rfl) (len_app (A := [.d (.val (.int .i64 (x_15.fKind))), .d (.slice ((x_15.fPath).map byteD)), .d (.val (sV (x_15.fValue)))]) (b := 16) rfl (len_map2 _) rfl) (le_of_len (len_app (A := [.d (.val (.int .i64 (0))), .full (([] : (List UInt8)).map byteD), .d (.val (sV ([] : List UInt8)))]) (b := 16) rfl (len_map2 _) rfl) (Nat.le_of_ble_eq_true rfl)) (spl_same ((len_app (A := [.d (.val (.int .i64 (0))), .full (([] : (List UInt8)).map byteD), .d (.val (sV ([] : List UInt8)))]) (b := 16) rfl (len_map2 _) rfl).trans (len_app (A := [.d (.val (.int .i64 (x_15.fKind))), .d (.slice ((x_15.fPath).map byteD)), .d (.val (sV (x_15.fValue)))]) (b := 16) rfl (len_map2 _) rfl).symm)) ?_)
      refine XK.nz ?_
      refine QW.seq ?_
      refine QW.region (Nat.zero_le _) (PW.regT (by kernel_rfl) ?_)
      refine XK.st (some 48) rfl rfl (sf_fldC rfl TT.fldA_52_1 (by decide) rfl ?_)
      refine XK.st (some 49) rfl rfl (sf_ldC (d := .slice ((a0.fPath).map byteD)) rfl TT.tyA_49 rfl (ldc_Node_1 _) ?_)
      refine XK.st (some 50) rfl rfl (sf_move (v := .d (.val (sV s2))) rfl rfl ?_)
      obtain ⟨x_17, hx_18, h⟩ := bG h
      refine XK.st (some 51) rfl rfl (sf_call rfl rfl TT.enters_42 rfl (sim_node_Ext (a0.fPath) s2 _ hx_18) ?_)
      refine XK.st (some 10) rfl rfl (sf_alloc (l := (([.d (.val (.int .i64 (0))), .full (([] : (List UInt8)).map byteD), .d (.val (sV ([] : List UInt8)))]) ++ (((Arr.rep 16 ([] : (List UInt8))).1.map eS).map PV.d))) rfl TT.zeroA_52 rfl rfl ?_)
      refine XK.st none rfl rfl (sf_stV (c := (([.d (.val (.int .i64 (x_17.fKind))), .d (.slice ((x_17.fPath).map byteD)), .d (.val (sV (x_17.fValue)))]) ++ (((x_17.fKids).1.map eS).map PV.d))) (l' := (([.d (.val (.int .i64 (x_17.fKind))), .d (.slice ((x_17.fPath).map byteD)), .d (.val (sV (x_17.fValue)))]) ++ (((x_17.fKids).1.map eS).map PV.d))) rfl TT.tyA_52 rfl rfl rfl rfl (show (cNode x_17).map PV.d = _ by simp only [cNode, List.map_append]; rfl) (len_app (A := [.d (.val (.int .i64 (x_17.fKind))), .d (.slice ((x_17.fPath).map byteD)), .d (.val (sV (x_17.fValue)))]) (b := 16) rfl (len_map2 _) rfl) (le_of_len (len_app (A := [.d (.val (.int .i64 (0))), .full (([] : (List UInt8)).map byteD), .d (.val (sV ([] : List UInt8)))]) (b := 16) rfl (len_map2 _) rfl) (Nat.le_of_ble_eq_true rfl)) (spl_same ((len_app (A := [.d (.val (.int .i64 (0))), .full (([] : (List UInt8)).map byteD), .d (.val (sV ([] : List UInt8)))]) (b := 16) rfl (len_map2 _) rfl).trans (len_app (A := [.d (.val (.int .i64 (x_17.fKind))), .d (.slice ((x_17.fPath).map byteD)), .d (.val (sV (x_17.fValue)))]) (b := 16) rfl (len_map2 _) rfl).symm)) ?_)
      refine XK.nz ?_
      refine QW.seq ?_
      refine QW.region (Nat.zero_le _) (PW.regT (by kernel_rfl) ?_)
      refine XK.st (some 52) rfl rfl (sf_fldC rfl TT.fldA_52_3 (by decide) rfl ?_)
      refine XK.st (some 53) rfl rfl (sf_ldC (d := .agg ((a0.fKids).1.map eS)) rfl TT.tyA_50 rfl (ldc_Node_3 _) ?_)
      obtain ⟨x_19, hx_20, h⟩ := bG h
      refine XK.st (some 54) rfl rfl (sf_call rfl rfl TT.enters_43 rfl (sim_node_Branch (a0.fKids) _ hx_20) ?_)
      refine XK.st (some 11) rfl rfl (sf_alloc (l := (([.d (.val (.int .i64 (0))), .full (([] : (List UInt8)).map byteD), .d (.val (sV ([] : List UInt8)))]) ++ (((Arr.rep 16 ([] : (List UInt8))).1.map eS).map PV.d))) rfl TT.zeroA_52 rfl rfl ?_)
      refine XK.st none rfl rfl (sf_stV (c := (([.d (.val (.int .i64 (x_19.fKind))), .d (.slice ((x_19.fPath).map byteD)), .d (.val (sV (x_19.fValue)))]) ++ (((x_19.fKids).1.map eS).map PV.d))) (l' := (([.d (.val (.int .i64 (x_19.fKind))), .d (.slice ((x_19.fPath).map byteD)), .d (.val (sV (x_19.fValue)))]) ++ (((x_19.fKids).1.map eS).map PV.d))) rfl TT.tyA_52 rfl rfl rfl rfl (show (cNode x_19).map PV.d = _ by simp only [cNode, List.map_append]; rfl) (len_app (A := [.d (.val (.int .i64 (x_19.fKind))), .d (.slice ((x_19.fPath).map byteD)), .d (.val (sV (x_19.fValue)))]) (b := 16) rfl (len_map2 _) rfl) (le_of_len (len_app (A := [.d (.val (.int .i64 (0))), .full (([] : (List UInt8)).map byteD), .d (.val (sV ([] : List UInt8)))]) (b := 16) rfl (len_map2 _) rfl) (Nat.le_of_ble_eq_true rfl)) (spl_same ((len_app (A := [.d (.val (.int .i64 (0))), .full (([] : (List UInt8)).map byteD), .d (.val (sV ([] : List UInt8)))]) (b := 16) rfl (len_map2 _) rfl).trans (len_app (A := [.d (.val (.int .i64 (x_19.fKind))), .d (.slice ((x_19.fPath).map byteD)), .d (.val (sV (x_19.fValue)))]) (b := 16) rfl (len_map2 _) rfl).symm)) ?_)
      refine XK.nz ?_
      refine QW.seq ?_
      refine QW.view (s' := ⟨tab [(2, .d (.val (sV s2))), (3, .d (.cptr (cNode a0))), (4, .d (.cptr (cNode b1))), (7, .own 0 (v7_2.map eS)), (9, .vptr 1 0), (10, .vptr 2 0), (11, .vptr 3 0)], tabH [.spare 1 v7_2.length, .var (([.d (.val (.int .i64 (x_15.fKind))), .d (.slice ((x_15.fPath).map byteD)), .d (.val (sV (x_15.fValue)))]) ++ (((x_15.fKids).1.map eS).map PV.d)), .var (([.d (.val (.int .i64 (x_17.fKind))), .d (.slice ((x_17.fPath).map byteD)), .d (.val (sV (x_17.fValue)))]) ++ (((x_17.fKids).1.map eS).map PV.d)), .var (([.d (.val (.int .i64 (x_19.fKind))), .d (.slice ((x_19.fPath).map byteD)), .d (.val (sV (x_19.fValue)))]) ++ (((x_19.fKids).1.map eS).map PV.d))], 4, []⟩) (View.mk 4 [0, 1, 2, 3] _ _ _ rfl rfl (by decide) (And.intro (Imp.of_eq rfl) (And.intro (Imp.of_eq rfl) (And.intro (Imp.of_eq rfl) (And.intro (Imp.of_eq rfl) (And.intro (Imp.of_eq rfl) (And.intro (Imp.of_eq rfl) (And.intro (Imp.of_eq rfl) trivial))))))) (And.intro rfl (And.intro (by simp only [atH1, res_app, PV.res_d]; rfl) (And.intro (by simp only [atH1, res_app, PV.res_d]; rfl) (And.intro (by simp only [atH1, res_app, PV.res_d]; rfl) trivial)))) rfl (Nat.zero_le _) rfl) (Nat.zero_le _) ?_
      refine QW.region (Nat.zero_le _) (PW.regT (by kernel_rfl) ?_)
      refine XK.as (some 55) rfl rfl (sf_ldV (v := .agg (([.d (.val (.int .i64 (x_15.fKind))), .d (.slice ((x_15.fPath).map byteD)), .d (.val (sV (x_15.fValue)))]) ++ (((x_15.fKids).1.map eS).map PV.d))) rfl TT.tyA_52 rfl rfl (ldv_whole (len_app (A := [.d (.val (.int .i64 (x_15.fKind))), .d (.slice ((x_15.fPath).map byteD)), .d (.val (sV (x_15.fValue)))]) (b := 16) rfl (len_map2 _) rfl) (Nat.succ_pos _)) ⟨.d (.agg (cNode x_15)), (Imp.toD (toD_agg (toDs_app rfl toDs_map))), ?_⟩)
      refine XK.st (some 56) rfl rfl (sf_fldC rfl TT.fldA_52_1 (by decide) rfl ?_)
      refine XK.st (some 57) rfl rfl (sf_ldC (d := .slice ((a0.fPath).map byteD)) rfl TT.tyA_49 rfl (ldc_Node_1 _) ?_)
      refine XK.st (some 58) rfl rfl (sf_fldC rfl TT.fldA_52_2 (by decide) rfl ?_)
      refine XK.st (some 59) rfl rfl (sf_ldC (d := .val (sV (a0.fValue))) rfl TT.tyA_9 rfl (ldc_Node_2 _) ?_)
      refine XK.st (some 60) rfl rfl (sf_bld (v := .agg (([.d (.val (.int .i64 (1))), .d (.slice ((a0.fPath).map byteD)), .d (.val (sV (a0.fValue)))]) ++ (((Arr.rep 16 ([] : (List UInt8))).1.map eS).map PV.d))) rfl TT.bldA_52 (build_of rfl (fill_step (p := .d (.val (.int .i64 (1)))) (cells := (([.d (.val (.int .i64 (0))), .full (([] : (List UInt8)).map byteD), .d (.val (sV ([] : List UInt8)))]) ++ (((Arr.rep 16 ([] : (List UInt8))).1.map eS).map PV.d))) (cells' := (([.d (.val (.int .i64 (1))), .full (([] : (List UInt8)).map byteD), .d (.val (sV ([] : List UInt8)))]) ++ (((Arr.rep 16 ([] : (List UInt8))).1.map eS).map PV.d))) rfl rfl rfl (le_of_len (len_app (A := [.d (.val (.int .i64 (0))), .full (([] : (List UInt8)).map byteD), .d (.val (sV ([] : List UInt8)))]) (b := 16) rfl (len_map2 _) rfl) (Nat.le_of_ble_eq_true rfl)) (spl_left 0 (by first | exact Nat.le_of_ble_eq_true rfl | simp) rfl) (fill_step (p := .d (.slice ((a0.fPath).map byteD))) (cells := (([.d (.val (.int .i64 (1))), .full (([] : (List UInt8)).map byteD), .d (.val (sV ([] : List UInt8)))]) ++ (((Arr.rep 16 ([] : (List UInt8))).1.map eS).map PV.d))) (cells' := (([.d (.val (.int .i64 (1))), .d (.slice ((a0.fPath).map byteD)), .d (.val (sV ([] : List UInt8)))]) ++ (((Arr.rep 16 ([] : (List UInt8))).1.map eS).map PV.d))) rfl rfl rfl (le_of_len (len_app (A := [.d (.val (.int .i64 (1))), .full (([] : (List UInt8)).map byteD), .d (.val (sV ([] : List UInt8)))]) (b := 16) rfl (len_map2 _) rfl) (Nat.le_of_ble_eq_true rfl)) (spl_left 1 (by first | exact Nat.le_of_ble_eq_true rfl | simp) rfl) (fill_step (p := .d (.val (sV (a0.fValue)))) (cells := (([.d (.val (.int .i64 (1))), .d (.slice ((a0.fPath).map byteD)), .d (.val (sV ([] : List UInt8)))]) ++ (((Arr.rep 16 ([] : (List UInt8))).1.map eS).map PV.d))) (cells' := (([.d (.val (.int .i64 (1))), .d (.slice ((a0.fPath).map byteD)), .d (.val (sV (a0.fValue)))]) ++ (((Arr.rep 16 ([] : (List UInt8))).1.map eS).map PV.d))) rfl rfl rfl (le_of_len (len_app (A := [.d (.val (.int .i64 (1))), .d (.slice ((a0.fPath).map byteD)), .d (.val (sV ([] : List UInt8)))]) (b := 16) rfl (len_map2 _) rfl) (Nat.le_of_ble_eq_true rfl)) (spl_left 2 (by first | exact Nat.le_of_ble_eq_true rfl | simp) rfl) fill_nil)))) ?_)
      obtain ⟨x_21, hx_22, h⟩ := bG h
      refine XK.st (some 61) rfl rfl (sf_call rfl rfl TT.enters_39 rfl (sim_ref06_Same x_15 (⟨1, a0.fPath, a0.fValue, (Arr.rep 16 ([] : (List UInt8)))⟩ : Node) _ hx_22) ?_)
      refine XK.st (some 62) rfl rfl (sf_move (v := .d (.val (.bool x_21))) rfl rfl ?_)
      refine XK.gd (v := .vptr 2 0) (T := []) (some 63) rfl rfl (by repeat (first | exact trivial | refine ⟨fun q => by first | rfl | exact q | exact cda q | exact cdb q, ?_⟩)) (fun hg => sf_fldV rfl TT.fldA_52_0 (by decide) rfl g3) nm0 ?_
      refine XK.gd (v := .d (.val (.int .i64 (x_17.fKind)))) (T := [2]) (some 64) rfl rfl (by repeat (first | exact trivial | refine ⟨fun q => by first | rfl | exact q | exact cda q | exact cdb q, ?_⟩)) (fun hg => sf_ldV (v := .d (.val (.int .i64 (x_17.fKind)))) rfl TT.tyA_3 rfl rfl (ldv_left ⟨⟨by simp, by simp⟩, rfl⟩) g3) (fun _ i hi => by simp only [List.mem_singleton] at hi; subst hi; decide) ?_
      refine XK.gd (v := .d (.val (.bool (decide ((x_17.fKind) = (2 : Int)))))) (T := []) (some 65) rfl rfl (by repeat (first | exact trivial | refine ⟨fun q => by first | rfl | exact q | exact cda q | exact cdb q, ?_⟩)) (fun hg => sf_eq (a := (x_17.fKind)) (b := (2 : Int)) rfl rfl rfl g3) nm0 ?_
      refine XK.st (some 66) rfl rfl (sf_pickA rfl rfl rfl rfl (fun hb => by rw [hb]; rfl) (fun _ => rfl) ?_)
      refine XK.st (some 67) rfl rfl (sf_move (v := .d (.val (.bool (x_21 && (decide ((x_17.fKind) = (2 : Int))))))) rfl rfl ?_)
      refine XK.gd (v := .vptr 2 1) (T := []) (some 68) rfl rfl (by repeat (first | exact trivial | refine ⟨fun q => by first | rfl | exact q | exact cda q | exact cdb q, ?_⟩)) (fun hg => sf_fldV rfl TT.fldA_52_1 (by decide) rfl g3) nm0 ?_
      refine XK.gd (v := .d (.slice ((x_17.fPath).map byteD))) (T := [2]) (some 69) rfl rfl (by repeat (first | exact trivial | refine ⟨fun q => by first | rfl | exact q | exact cda q | exact cdb q, ?_⟩)) (fun hg => sf_ldV (v := .d (.slice ((x_17.fPath).map byteD))) rfl TT.tyA_49 rfl rfl (ldv_left ⟨⟨by simp, by simp⟩, rfl⟩) g3) (fun _ i hi => by simp only [List.mem_singleton] at hi; subst hi; decide) ?_
      refine XK.gd (v := .d (.val (sV (x_17.fPath)))) (T := []) (some 70) rfl rfl (by repeat (first | exact trivial | refine ⟨fun q => by first | rfl | exact q | exact cda q | exact cdb q, ?_⟩)) (fun hg => sf_b2s (l := x_17.fPath) rfl TT.under_49 TT.under_5 TT.under_9 rfl g3) nm0 ?_
      refine XK.gd (v := .d (.cptr ((cNode a0).drop 1))) (T := []) (some 71) rfl rfl (by repeat (first | exact trivial | refine ⟨fun q => by first | rfl | exact q | exact cda q | exact cdb q, ?_⟩)) (fun hg => sf_fldC rfl TT.fldA_52_1 (by decide) rfl g3) nm0 ?_
      refine XK.gd (v := .d (.slice ((a0.fPath).map byteD))) (T := []) (some 72) rfl rfl (by repeat (first | exact trivial | refine ⟨fun q => by first | rfl | exact q | exact cda q | exact cdb q, ?_⟩)) (fun hg => sf_ldC (d := .slice ((a0.fPath).map byteD)) rfl TT.tyA_49 rfl (ldc_Node_1 _) g3) nm0 ?_
      refine XK.gd (v := .d (.val (sV (a0.fPath)))) (T := []) (some 73) rfl rfl (by repeat (first | exact trivial | refine ⟨fun q => by first | rfl | exact q | exact cda q | exact cdb q, ?_⟩)) (fun hg => sf_b2s (l := a0.fPath) rfl TT.under_49 TT.under_5 TT.under_9 rfl g3) nm0 ?_
      refine XK.gd (v := .d (.val (.bool (x_17.fPath == a0.fPath)))) (T := []) (some 74) rfl rfl (by repeat (first | exact trivial | refine ⟨fun q => by first | rfl | exact q | exact cda q | exact cdb q, ?_⟩)) (fun hg => sf_seq (a := x_17.fPath) (b := a0.fPath) rfl rfl rfl g3) nm0 ?_
      refine XK.st (some 75) rfl rfl (sf_pickA rfl rfl rfl rfl (fun hb => by rw [hb]; rfl) (fun _ => rfl) ?_)
      refine XK.st (some 76) rfl rfl (sf_move (v := .d (.val (.bool ((x_21 && (decide ((x_17.fKind) = (2 : Int)))) && (x_17.fPath == a0.fPath))))) rfl rfl ?_)
      refine XK.gd (v := .vptr 2 3) (T := []) (some 77) rfl rfl (by repeat (first | exact trivial | refine ⟨fun q => by first | rfl | exact q | exact cda q | exact cdb q, ?_⟩)) (fun hg => sf_fldV rfl TT.fldA_52_3 (by decide) rfl g3) nm0 ?_
      refine XK.gd (v := .vptr 2 (3 + (0 : Int).toNat * 1)) (T := []) (some 78) rfl rfl (by repeat (first | exact trivial | refine ⟨fun q => by first | rfl | exact q | exact cda q | exact cdb q, ?_⟩)) (fun hg => sf_idxV (i := (0 : Int)) rfl TT.slcA_50 TT.arrA_50 rfl rfl (by decide) g3) nm0 ?_
      refine XK.gd (v := .d (.val (sV (idx (x_17.fKids).1 (0 : Int))))) (T := [2]) (some 79) rfl rfl (by repeat (first | exact trivial | refine ⟨fun q => by first | rfl | exact q | exact cda q | exact cdb q, ?_⟩)) (fun hg => sf_ldV (v := .d (.val (sV (idx (x_17.fKids).1 (0 : Int))))) rfl TT.tyA_9 rfl rfl (ldv_in 3 _ rfl (ldv_arr0 (by decide))) g3) (fun _ i hi => by simp only [List.mem_singleton] at hi; subst hi; decide) ?_
      refine XK.gd (v := .d (.val (sV s2))) (T := []) (some 80) rfl rfl (by repeat (first | exact trivial | refine ⟨fun q => by first | rfl | exact q | exact cda q | exact cdb q, ?_⟩)) (fun hg => sf_move (v := .d (.val (sV s2))) rfl rfl g3) nm0 ?_
      refine XK.gd (v := .d (.val (.bool ((idx (x_17.fKids).1 (0 : Int)) == s2)))) (T := []) (some 81) rfl rfl (by repeat (first | exact trivial | refine ⟨fun q => by first | rfl | exact q | exact cda q | exact cdb q, ?_⟩)) (fun hg => sf_seq (a := (idx (x_17.fKids).1 (0 : Int))) (b := s2) rfl rfl rfl g3) nm0 ?_
      refine XK.st (some 82) rfl rfl (sf_pickA rfl rfl rfl rfl (fun hb => by rw [hb]; rfl) (fun _ => rfl) ?_)
      refine XK.st (some 83) rfl rfl (sf_move (v := .d (.val (.bool (((x_21 && (decide ((x_17.fKind) = (2 : Int)))) && (x_17.fPath == a0.fPath)) && ((idx (x_17.fKids).1 (0 : Int)) == s2))))) rfl rfl ?_)
      refine XK.gd (v := .d (.agg (cNode x_19))) (T := [3]) (some 84) rfl rfl (by repeat (first | exact trivial | refine ⟨fun q => by first | rfl | exact q | exact cda q | exact cdb q, ?_⟩)) (fun hg => sf_ldV (v := .agg (([.d (.val (.int .i64 (x_19.fKind))), .d (.slice ((x_19.fPath).map byteD)), .d (.val (sV (x_19.fValue)))]) ++ (((x_19.fKids).1.map eS).map PV.d))) rfl TT.tyA_52 rfl rfl (ldv_whole (len_app (A := [.d (.val (.int .i64 (x_19.fKind))), .d (.slice ((x_19.fPath).map byteD)), .d (.val (sV (x_19.fValue)))]) (b := 16) rfl (len_map2 _) rfl) (Nat.succ_pos _)) ⟨⟨rfl, rfl, rfl⟩, rfl, (Imp.toD (toD_agg (toDs_app rfl toDs_map)))⟩) (fun _ i hi => by simp only [List.mem_singleton] at hi; subst hi; decide) ?_
      refine XK.gd (v := .d (.cptr ((cNode a0).drop 3))) (T := []) (some 85) rfl rfl (by repeat (first | exact trivial | refine ⟨fun q => by first | rfl | exact q | exact cda q | exact cdb q, ?_⟩)) (fun hg => sf_fldC rfl TT.fldA_52_3 (by decide) rfl g3) nm0 ?_
      refine XK.gd (v := .d (.agg ((a0.fKids).1.map eS))) (T := []) (some 86) rfl rfl (by repeat (first | exact trivial | refine ⟨fun q => by first | rfl | exact q | exact cda q | exact cdb q, ?_⟩)) (fun hg => sf_ldC (d := .agg ((a0.fKids).1.map eS)) rfl TT.tyA_50 rfl (ldc_Node_3 _) g3) nm0 ?_
      refine XK.gd (v := .d (.agg (cNode (⟨3, ([] : (List UInt8)), ([] : List UInt8), a0.fKids⟩ : Node)))) (T := []) (some 87) rfl rfl (by repeat (first | exact trivial | refine ⟨fun q => by first | rfl | exact q | exact cda q | exact cdb q, ?_⟩)) (fun hg => sf_bld (v := .agg (([.d (.val (.int .i64 (3))), .full (([] : (List UInt8)).map byteD), .d (.val (sV ([] : List UInt8)))]) ++ (((a0.fKids).1.map eS).map PV.d))) rfl TT.bldA_52 (build_of rfl (fill_step (p := .d (.val (.int .i64 (3)))) (cells := (([.d (.val (.int .i64 (0))), .full (([] : (List UInt8)).map byteD), .d (.val (sV ([] : List UInt8)))]) ++ (((Arr.rep 16 ([] : (List UInt8))).1.map eS).map PV.d))) (cells' := (([.d (.val (.int .i64 (3))), .full (([] : (List UInt8)).map byteD), .d (.val (sV ([] : List UInt8)))]) ++ (((Arr.rep 16 ([] : (List UInt8))).1.map eS).map PV.d))) rfl rfl rfl (le_of_len (len_app (A := [.d (.val (.int .i64 (0))), .full (([] : (List UInt8)).map byteD), .d (.val (sV ([] : List UInt8)))]) (b := 16) rfl (len_map2 _) rfl) (Nat.le_of_ble_eq_true rfl)) (spl_left 0 (by first | exact Nat.le_of_ble_eq_true rfl | simp) rfl) (fill_step (p := .d (.agg ((a0.fKids).1.map eS))) (cells := (([.d (.val (.int .i64 (3))), .full (([] : (List UInt8)).map byteD), .d (.val (sV ([] : List UInt8)))]) ++ (((Arr.rep 16 ([] : (List UInt8))).1.map eS).map PV.d))) (cells' := (([.d (.val (.int .i64 (3))), .full (([] : (List UInt8)).map byteD), .d (.val (sV ([] : List UInt8)))]) ++ (((a0.fKids).1.map eS).map PV.d))) rfl rfl (show (((a0.fKids).1.map eS).map PV.d).length = _ from len_map2 _) (le_of_len (len_app (A := [.d (.val (.int .i64 (3))), .full (([] : (List UInt8)).map byteD), .d (.val (sV ([] : List UInt8)))]) (b := 16) rfl (len_map2 _) rfl) (Nat.le_of_ble_eq_true rfl)) (spl_in 3 0 rfl (spl_same ((len_map2 _).trans (len_map2 _).symm))) fill_nil))) ⟨⟨rfl, rfl, rfl⟩, rfl, (Imp.toD (toD_agg (toDs_app rfl toDs_map)))⟩) nm0 ?_
      obtain ⟨x_23, hx_24, h⟩ := bG h
      refine XK.gd (v := .d (.val (.bool x_23))) (T := []) (some 88) rfl rfl (by repeat (first | exact trivial | refine ⟨fun q => by first | rfl | exact q | exact cda q | exact cdb q, ?_⟩)) (fun hg => sf_call rfl rfl TT.enters_39 rfl (sim_ref06_Same x_19 (⟨3, ([] : (List UInt8)), ([] : List UInt8), a0.fKids⟩ : Node) _ (bT hx_24 hg)) g3) nm0 ?_
      refine XK.st (some 89) rfl rfl (sf_pickA rfl rfl rfl rfl (fun hb => by rw [hb]; rfl) (fun _ => rfl) ?_)
      refine XK.st (some 12) rfl rfl (sf_assign (v := .d (.val (.bool ((((x_21 && (decide ((x_17.fKind) = (2 : Int)))) && (x_17.fPath == a0.fPath)) && ((idx (x_17.fKids).1 (0 : Int)) == s2)) && x_23)))) rfl rfl ?_)
      refine XK.nz ?_
      refine QW.seq ?_
      refine QW.view (s' := ⟨tab [(2, .d (.val (sV s2))), (3, .d (.cptr (cNode a0))), (4, .d (.cptr (cNode b1))), (7, .own 0 (v7_2.map eS)), (12, .d (.val (.bool ((((x_21 && (decide ((x_17.fKind) = (2 : Int)))) && (x_17.fPath == a0.fPath)) && ((idx (x_17.fKids).1 (0 : Int)) == s2)) && x_23))))], tabH [.spare 1 v7_2.length], 1, []⟩) (View.mk 1 [0] _ _ _ rfl rfl (by decide) (And.intro (Imp.of_eq rfl) (And.intro (Imp.of_eq rfl) (And.intro (Imp.of_eq rfl) (And.intro (Imp.of_eq rfl) (And.intro (Imp.of_eq rfl) trivial))))) (And.intro rfl trivial) rfl (Nat.zero_le _) rfl) (Nat.zero_le _) ?_
      refine QW.region (Nat.zero_le _) (PW.regQ (id := 13) mixedX (M := _) rfl (by kernel_rfl) ?_)
      obtain ⟨x_25, hx_26, h⟩ := bG h
      refine RQ.st (some 90) rfl rfl (sf_call rfl rfl TT.enters_33 rfl (sim_law06_awake  _ hx_26) ⟨⟨rfl, rfl⟩, ?_⟩)
      refine RQ.st (some 91) rfl rfl (sf_move (v := .d (.val (.bool x_25))) rfl rfl ⟨⟨rfl, rfl⟩, ?_⟩)
      refine RQ.gd (v := .d (.val (.bool ((((x_21 && (decide ((x_17.fKind) = (2 : Int)))) && (x_17.fPath == a0.fPath)) && ((idx (x_17.fKids).1 (0 : Int)) == s2)) && x_23)))) (T := []) (some 92) rfl rfl (by repeat (first | exact trivial | refine ⟨fun q => by first | rfl | exact q | exact cda q | exact cdb q, ?_⟩)) (fun hg => sf_move (v := .d (.val (.bool ((((x_21 && (decide ((x_17.fKind) = (2 : Int)))) && (x_17.fPath == a0.fPath)) && ((idx (x_17.fKids).1 (0 : Int)) == s2)) && x_23)))) rfl rfl g3) nm0 ?_
      refine RQ.st (some 93) rfl rfl (sf_pickA rfl rfl rfl rfl (fun hb => by rw [hb]; rfl) (fun _ => rfl) ⟨⟨rfl, rfl⟩, ?_⟩)
      refine RQ.st (some 94) rfl rfl (sf_move (v := .d (.val (.bool (x_25 && ((((x_21 && (decide ((x_17.fKind) = (2 : Int)))) && (x_17.fPath == a0.fPath)) && ((idx (x_17.fKids).1 (0 : Int)) == s2)) && x_23))))) rfl rfl ⟨⟨rfl, rfl⟩, ?_⟩)
      refine RQ.gd (v := .d (.agg (cNode a0))) (T := []) (some 95) rfl rfl (by repeat (first | exact trivial | refine ⟨fun q => by first | rfl | exact q | exact cda q | exact cdb q, ?_⟩)) (fun hg => sf_ldC (d := .agg (cNode a0)) rfl TT.tyA_52 rfl (⟨by rw [lay_Node.len]; decide, congrArg D.agg (List.take_of_length_le (by rw [lay_Node.len]; decide))⟩) g3) nm0 ?_
      obtain ⟨x_27, hx_28, h⟩ := bG h
      refine RQ.gd (v := .d (.slice (x_27.map eS))) (T := []) (some 96) rfl rfl (by repeat (first | exact trivial | refine ⟨fun q => by first | rfl | exact q | exact cda q | exact cdb q, ?_⟩)) (fun hg => sf_call rfl rfl TT.enters_45 rfl (sim_node_Kids a0 _ (bT hx_28 hg)) g3) nm0 ?_
      refine RQ.gd (v := .own 0 (v7_2.map eS)) (T := []) (some 97) rfl rfl (by repeat (first | exact trivial | refine ⟨fun q => by first | rfl | exact q | exact cda q | exact cdb q, ?_⟩)) (fun hg => sf_move (v := .own 0 (v7_2.map eS)) rfl rfl g3) nm0 ?_
      obtain ⟨x_29, hx_30, h⟩ := bG h
      refine RQ.gd (v := .d (.val (.bool x_29))) (T := []) (some 98) rfl rfl (by repeat (first | exact trivial | refine ⟨fun q => by first | rfl | exact q | exact cda q | exact cdb q, ?_⟩)) (fun hg => sf_call rfl rfl TT.enters_44 rfl (sim_ref01_Same x_27 v7_2 _ (bT hx_30 hg)) g3) nm0 ?_
      refine RQ.st (some 99) rfl rfl (sf_pickA rfl rfl rfl rfl (fun hb => by rw [hb]; rfl) (fun _ => rfl) ⟨⟨rfl, rfl⟩, ?_⟩)
      refine RQ.st (some 100) rfl rfl (sf_move (v := .d (.val (.bool ((x_25 && ((((x_21 && (decide ((x_17.fKind) = (2 : Int)))) && (x_17.fPath == a0.fPath)) && ((idx (x_17.fKids).1 (0 : Int)) == s2)) && x_23)) && x_29)))) rfl rfl ⟨⟨rfl, rfl⟩, ?_⟩)
      refine RQ.gd (v := .d (.agg (cNode a0))) (T := []) (some 101) rfl rfl (by repeat (first | exact trivial | refine ⟨fun q => by first | rfl | exact q | exact cda q | exact cdb q, ?_⟩)) (fun hg => sf_ldC (d := .agg (cNode a0)) rfl TT.tyA_52 rfl (⟨by rw [lay_Node.len]; decide, congrArg D.agg (List.take_of_length_le (by rw [lay_Node.len]; decide))⟩) g3) nm0 ?_
      refine RQ.gd (v := .d (.agg (cNode b1))) (T := []) (some 102) rfl rfl (by repeat (first | exact trivial | refine ⟨fun q => by first | rfl | exact q | exact cda q | exact cdb q, ?_⟩)) (fun hg => sf_ldC (d := .agg (cNode b1)) rfl TT.tyA_52 rfl (⟨by rw [lay_Node.len]; decide, congrArg D.agg (List.take_of_length_le (by rw [lay_Node.len]; decide))⟩) g3) nm0 ?_
      obtain ⟨x_31, hx_32, h⟩ := bG h
      refine RQ.gd (v := .d (.val (.bool x_31))) (T := []) (some 103) rfl rfl (by repeat (first | exact trivial | refine ⟨fun q => by first | rfl | exact q | exact cda q | exact cdb q, ?_⟩)) (fun hg => sf_call rfl rfl TT.enters_46 rfl (sim_node_Same a0 b1 _ (bT hx_32 hg)) g3) nm0 ?_
      refine RQ.gd (v := .d (.agg (cNode a0))) (T := []) (some 104) rfl rfl (by repeat (first | exact trivial | refine ⟨fun q => by first | rfl | exact q | exact cda q | exact cdb q, ?_⟩)) (fun hg => sf_ldC (d := .agg (cNode a0)) rfl TT.tyA_52 rfl (⟨by rw [lay_Node.len]; decide, congrArg D.agg (List.take_of_length_le (by rw [lay_Node.len]; decide))⟩) g3) nm0 ?_
      refine RQ.gd (v := .d (.agg (cNode b1))) (T := []) (some 105) rfl rfl (by repeat (first | exact trivial | refine ⟨fun q => by first | rfl | exact q | exact cda q | exact cdb q, ?_⟩)) (fun hg => sf_ldC (d := .agg (cNode b1)) rfl TT.tyA_52 rfl (⟨by rw [lay_Node.len]; decide, congrArg D.agg (List.take_of_length_le (by rw [lay_Node.len]; decide))⟩) g3) nm0 ?_
      obtain ⟨x_33, hx_34, h⟩ := bG h
      refine RQ.gd (v := .d (.val (.bool x_33))) (T := []) (some 106) rfl rfl (by repeat (first | exact trivial | refine ⟨fun q => by first | rfl | exact q | exact cda q | exact cdb q, ?_⟩)) (fun hg => sf_call rfl rfl TT.enters_39 rfl (sim_ref06_Same a0 b1 _ (bT hx_34 hg)) g3) nm0 ?_
      refine RQ.gd (v := .d (.val (.bool (x_31 == x_33)))) (T := []) (some 107) rfl rfl (by repeat (first | exact trivial | refine ⟨fun q => by first | rfl | exact q | exact cda q | exact cdb q, ?_⟩)) (fun hg => sf_beq (a := x_31) (b := x_33) rfl TT.under_4 rfl rfl g3) nm0 ?_
      refine RQ.st (some 108) rfl rfl (sf_pickA rfl rfl rfl rfl (fun hb => by rw [hb]; rfl) (fun _ => rfl) ⟨⟨rfl, rfl⟩, ?_⟩)
      refine RQ.st (some 109) rfl rfl (sf_move (v := .d (.val (.bool (((x_25 && ((((x_21 && (decide ((x_17.fKind) = (2 : Int)))) && (x_17.fPath == a0.fPath)) && ((idx (x_17.fKids).1 (0 : Int)) == s2)) && x_23)) && x_29) && (x_31 == x_33))))) rfl rfl ⟨⟨rfl, rfl⟩, ?_⟩)
      refine RQ.gd (v := .d (.val (sV s2))) (T := []) (some 110) rfl rfl (by repeat (first | exact trivial | refine ⟨fun q => by first | rfl | exact q | exact cda q | exact cdb q, ?_⟩)) (fun hg => sf_move (v := .d (.val (sV s2))) rfl rfl g3) nm0 ?_
      obtain ⟨x_35, hx_36, h⟩ := bG h
      refine RQ.gd (v := .d (.val (.bool x_35))) (T := []) (some 111) rfl rfl (by repeat (first | exact trivial | refine ⟨fun q => by first | rfl | exact q | exact cda q | exact cdb q, ?_⟩)) (fun hg => sf_call rfl rfl TT.enters_47 rfl (sim_node_Reference s2 _ (bT hx_36 hg)) g3) nm0 ?_
      refine RQ.gd (v := .d (.val (sV s2))) (T := []) (some 112) rfl rfl (by repeat (first | exact trivial | refine ⟨fun q => by first | rfl | exact q | exact cda q | exact cdb q, ?_⟩)) (fun hg => sf_move (v := .d (.val (sV s2))) rfl rfl g3) nm0 ?_
      obtain ⟨x_37, hx_38, h⟩ := bG h
      refine RQ.gd (v := .d (.val (.bool x_37))) (T := []) (some 113) rfl rfl (by repeat (first | exact trivial | refine ⟨fun q => by first | rfl | exact q | exact cda q | exact cdb q, ?_⟩)) (fun hg => sf_call rfl rfl TT.enters_48 rfl (sim_ref06_Reference s2 _ (bT hx_38 hg)) g3) nm0 ?_
      refine RQ.gd (v := .d (.val (.bool (x_35 == x_37)))) (T := []) (some 114) rfl rfl (by repeat (first | exact trivial | refine ⟨fun q => by first | rfl | exact q | exact cda q | exact cdb q, ?_⟩)) (fun hg => sf_beq (a := x_35) (b := x_37) rfl TT.under_4 rfl rfl g3) nm0 ?_
      refine RQ.st (some 115) rfl rfl (sf_pickA rfl rfl rfl rfl (fun hb => by rw [hb]; rfl) (fun _ => rfl) ⟨⟨rfl, rfl⟩, ?_⟩)
      refine RQ.st (some 6) rfl rfl (sf_assign (v := .d (.val (.bool ((((x_25 && ((((x_21 && (decide ((x_17.fKind) = (2 : Int)))) && (x_17.fPath == a0.fPath)) && ((idx (x_17.fKids).1 (0 : Int)) == s2)) && x_23)) && x_29) && (x_31 == x_33)) && (x_35 == x_37))))) rfl rfl ⟨⟨rfl, rfl⟩, ?_⟩)
      refine RQ.nil (nrm ?_)
      refine QW.ret (Nat.zero_le _) ?_
      obtain rfl := sG h
      exact Ends.one (.inr rfl) rfl (ResIs.tmp rfl) rfl rfl
end Go.Proofs.Ytoeppofkmcdknaa.K
