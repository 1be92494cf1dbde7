/- RlpHeads: what the law reckons. -/
import Derived.Test.YtonlehebfeilmaaWR05
import Derived.KernelRfl
namespace Go.Proofs.Ytonlehebfeilmaa.K
open Go Go.RowKit
set_option linter.unusedSimpArgs false
set_option linter.unusedVariables false
namespace TT
theorem enters_102 : entersB Try.prog 102 = true := by kernel_rfl
theorem enters_103 : entersB Try.prog 103 = true := by kernel_rfl
theorem enters_57 : entersB Try.prog 57 = true := by kernel_rfl
theorem enters_62 : entersB Try.prog 62 = true := by kernel_rfl
theorem enters_63 : entersB Try.prog 63 = true := by kernel_rfl
theorem enters_69 : entersB Try.prog 69 = true := by kernel_rfl
theorem fldA_82_0 : fldA Try.prog 82 0 = some (0, 1, false) := by kernel_rfl
theorem fldA_82_1 : fldA Try.prog 82 1 = some (1, 1, false) := by kernel_rfl
theorem fldA_82_2 : fldA Try.prog 82 2 = some (2, 3, true) := by kernel_rfl
theorem fldA_82_3 : fldA Try.prog 82 3 = some (5, 3, true) := by kernel_rfl
theorem res_11 : Try.f11.results.toList = [.tmp 2] := rfl
theorem res_62 : Try.f62.results.toList = [.tmp 2] := rfl
theorem res_63 : Try.f63.results.toList = [.tmp 0] := rfl
end TT
noncomputable def g_law05_light (x0 : Item) : Option Bool :=
    ((g_ref05_Size x0).bind fun (x1 : (Int × Int)) =>
    some ((decide ((x1.1) ≤ (90 : Int))) && (decide ((x1.2) ≤ (300 : Int)))))

set_option maxRecDepth 20000 in
set_option maxHeartbeats 4000000 in
theorem sim_law05_light (x0 : Item) (r : Bool) (h : g_law05_light x0 = some r) : Fun Try.prog 62 [.agg (cItem x0)] (.val (.bool r)) := by
  refine Fun.of_bodyQ Try.func62 rfl (by simp [Try.ntmps62]) ?_
  rw [Try.ntmps62, TT.res_62]
  refine QW.view (s' := ⟨tab [(0, .d (.agg (cItem x0)))], tabH [], 0, []⟩) (View.init (by rfl)) (Nat.zero_le _) ?_
  unfold g_law05_light at h
  refine QW.seq ?_
  refine QW.region (Nat.zero_le _) (PW.regT (by kernel_rfl) ?_)
  refine XK.fz (some 1) rfl rfl (sf_boxF (ds := cItem x0) rfl rfl rfl rfl rfl ?_)
  refine XK.st (some 2) rfl rfl (sf_assign (v := .d (.val (.bool false))) rfl rfl ?_)
  refine XK.nil (nrm ?_)
  refine QW.seq ?_
  refine QW.region (Nat.zero_le _) (PW.regT (by kernel_rfl) ?_)
  refine XK.st (some 6) rfl rfl (sf_ldC (d := .agg (cItem x0)) rfl TT.tyA_80 rfl (⟨by simp [cItem], rfl⟩) ?_)
  obtain ⟨x1, hx2, h⟩ := bO h
  refine XK.st (some 7) rfl rfl (sf_call rfl rfl TT.enters_101 rfl (sim_ref05_Size x0 _ hx2) ?_)
  refine XK.st (some 5) rfl rfl (sf_move (v := .d (.tuple [.val (.int .i64 (x1.1)), .val (.int .i64 (x1.2))])) rfl rfl ?_)
  refine XK.st (some 8) rfl rfl (sf_extract rfl rfl rfl ?_)
  refine XK.st (some 9) rfl rfl (sf_extract rfl rfl rfl ?_)
  refine XK.st (some 3) rfl rfl (sf_assign (v := .d (.val (.int .i64 (x1.1)))) rfl rfl ?_)
  refine XK.st (some 4) rfl rfl (sf_assign (v := .d (.val (.int .i64 (x1.2)))) rfl rfl ?_)
  refine XK.nil (nrm ?_)
  refine QW.seq ?_
  refine QW.region (Nat.zero_le _) (PW.regT (by kernel_rfl) ?_)
  refine XK.st (some 10) rfl rfl (sf_move (v := .d (.val (.int .i64 (x1.1)))) rfl rfl ?_)
  refine XK.st (some 11) rfl rfl (sf_leq (a := (x1.1)) (b := (90 : Int)) rfl rfl rfl ?_)
  refine XK.st (some 12) rfl rfl (sf_move (v := .d (.val (.bool (decide ((x1.1) ≤ (90 : Int)))))) rfl rfl ?_)
  refine XK.gd (v := .d (.val (.int .i64 (x1.2)))) (T := []) (some 13) rfl rfl (by repeat (first | exact trivial | refine And.intro (fun hg => by first | rfl | exact hg | exact (Bool.and_eq_true_iff.mp hg).1 | exact (Bool.and_eq_true_iff.mp (Bool.and_eq_true_iff.mp hg).1).1) ?_)) (fun hg => sf_move (v := .d (.val (.int .i64 (x1.2)))) rfl rfl ⟨⟨rfl, rfl, rfl⟩, rfl, Imp.refl⟩) (fun _ _ hi => nomatch hi) ?_
  refine XK.gd (v := .d (.val (.bool (decide ((x1.2) ≤ (300 : Int)))))) (T := []) (some 14) rfl rfl (by repeat (first | exact trivial | refine And.intro (fun hg => by first | rfl | exact hg | exact (Bool.and_eq_true_iff.mp hg).1 | exact (Bool.and_eq_true_iff.mp (Bool.and_eq_true_iff.mp hg).1).1) ?_)) (fun hg => sf_leq (a := (x1.2)) (b := (300 : Int)) rfl rfl rfl ⟨⟨rfl, rfl, rfl⟩, rfl, Imp.refl⟩) (fun _ _ hi => nomatch hi) ?_
  refine XK.st (some 15) rfl rfl (sf_pickA rfl rfl rfl rfl (fun hb => by rw [hb]; rfl) (fun _ => rfl) ?_)
  refine XK.st (some 2) rfl rfl (sf_assign (v := .d (.val (.bool ((decide ((x1.1) ≤ (90 : Int))) && (decide ((x1.2) ≤ (300 : Int))))))) rfl rfl ?_)
  refine XK.nil (nrm ?_)
  refine QW.ret (Nat.zero_le _) ?_
  obtain rfl := sO h
  exact Ends.one (.inr rfl) rfl (ResIs.tmp rfl) rfl rfl

noncomputable def g_law05_awake  : Option Bool :=
    ((g_rlp_Text ([99, 97, 116] : List UInt8)).bind fun (x1 : Item) =>
    ((g_rlp_Text ([100, 111, 103] : List UInt8)).bind fun (x3 : Item) =>
    ((g_rlp_List ([x1, x3] : List Item)).bind fun (x5 : Item) =>
    ((g_rlp_Put x5).bind fun (x7 : ((List UInt8) × Int)) =>
    ((g_rlp_Whole ([200, 131, 99, 97, 116, 131, 100, 111, 103] : List UInt8)).bind fun (x9 : (Item × Int)) =>
    ((g_rlp_Get ([97, 57] : List UInt8)).bind fun (x11 : (Item × Int × Int)) =>
    ((bif (((x7.1 == ([200, 131, 99, 97, 116, 131, 100, 111, 103] : List UInt8)) && (decide ((x7.2) = (0 : Int)))) == true) then g_rlp_Same x5 (x9.1) else some default).bind fun (x13 : Bool) =>
    ((bif (((((((x7.1 == ([200, 131, 99, 97, 116, 131, 100, 111, 103] : List UInt8)) && (decide ((x7.2) = (0 : Int)))) && x13) && (decide ((x9.2) = (0 : Int)))) && (decide ((x11.2.1) = (1 : Int)))) && (decide ((x11.2.2) = (0 : Int)))) == true) then g_rlp_Count x5 else some default).bind fun (x15 : Int) =>
    ((bif ((((((((x7.1 == ([200, 131, 99, 97, 116, 131, 100, 111, 103] : List UInt8)) && (decide ((x7.2) = (0 : Int)))) && x13) && (decide ((x9.2) = (0 : Int)))) && (decide ((x11.2.1) = (1 : Int)))) && (decide ((x11.2.2) = (0 : Int)))) && (decide (x15 = (3 : Int)))) == true) then g_rlp_Head (56) false else some default).bind fun (x17 : (List UInt8)) =>
    some ((((((((x7.1 == ([200, 131, 99, 97, 116, 131, 100, 111, 103] : List UInt8)) && (decide ((x7.2) = (0 : Int)))) && x13) && (decide ((x9.2) = (0 : Int)))) && (decide ((x11.2.1) = (1 : Int)))) && (decide ((x11.2.2) = (0 : Int)))) && (decide (x15 = (3 : Int)))) && (x17 == ([184, 56] : List UInt8))))))))))))

set_option maxRecDepth 20000 in
set_option maxHeartbeats 4000000 in
theorem sim_law05_awake  (r : Bool) (h : g_law05_awake  = some r) : Fun Try.prog 63 [] (.val (.bool r)) := by
  refine Fun.of_bodyQ Try.func63 rfl (by simp [Try.ntmps63]) ?_
  rw [Try.ntmps63, TT.res_63]
  refine QW.view (s' := ⟨tab [], tabH [], 0, []⟩) (View.init (by rfl)) (Nat.zero_le _) ?_
  unfold g_law05_awake at h
  refine QW.seq ?_
  refine QW.region (Nat.zero_le _) (PW.regT (by kernel_rfl) ?_)
  refine XK.st (some 0) rfl rfl (sf_assign (v := .d (.val (.bool false))) rfl rfl ?_)
  refine XK.nil (nrm ?_)
  refine QW.seq ?_
  refine QW.region (Nat.zero_le _) (PW.regT (by kernel_rfl) ?_)
  obtain ⟨x1, hx2, h⟩ := bO h
  refine XK.st (some 9) rfl rfl (sf_call rfl rfl TT.enters_68 rfl (sim_rlp_Text ([99, 97, 116] : List UInt8) _ hx2) ?_)
  obtain ⟨x3, hx4, h⟩ := bO h
  refine XK.st (some 10) rfl rfl (sf_call rfl rfl TT.enters_68 rfl (sim_rlp_Text ([100, 111, 103] : List UInt8) _ hx4) ?_)
  refine XK.st (some 11) rfl rfl (sf_row (en := eItem) (l := ([x1, x3] : List Item)) rfl TT.rowA_78 lay_Item (by first | rfl | (simp only [List.map_cons, List.map_nil, eItem_eq]; rfl)) rfl (by decide) (by simp [solids, partsP, evP, PV.solid, putS_at, tab, unS, unT, unC, asCond, Value.oneCell']) ?_)
  obtain ⟨x5, hx6, h⟩ := bO h
  refine XK.st (some 12) rfl rfl (sf_call rfl rfl TT.enters_69 rfl (sim_rlp_List ([x1, x3] : List Item) _ hx6) ?_)
  refine XK.st (some 1) rfl rfl (sf_alloc (l := [.d (.val (.bool false)), .d (.val (sV ([] : List UInt8))), .full (([] : (List Item)).map eItem)]) rfl TT.zeroA_80 rfl rfl ?_)
  refine XK.st none rfl rfl (sf_stV (l' := [.d (.val (.bool (x5.fList))), .d (.val (sV (x5.fS))), .d (.slice ((x5.fL).map eItem))]) rfl TT.tyA_80 rfl rfl rfl rfl rfl rfl (by simp) rfl ?_)
  refine XK.nil (nrm ?_)
  refine QW.seq ?_
  refine QW.region (Nat.zero_le _) (PW.regT (by kernel_rfl) ?_)
  refine XK.as (some 14) rfl rfl (sf_ldV (v := .agg [.d (.val (.bool (x5.fList))), .d (.val (sV (x5.fS))), .d (.slice ((x5.fL).map eItem))]) rfl TT.tyA_80 rfl rfl ⟨⟨by simp, by simp⟩, rfl⟩ ⟨.d (.agg (cItem x5)), (Imp.toD rfl), ?_⟩)
  obtain ⟨x7, hx8, h⟩ := bO h
  refine XK.st (some 15) rfl rfl (sf_call rfl rfl TT.enters_102 rfl (sim_rlp_Put x5 _ hx8) ?_)
  refine XK.st (some 13) rfl rfl (sf_move (v := .d (.tuple [.val (sV (x7.1)), .val (.int .i64 (x7.2))])) rfl rfl ?_)
  refine XK.st (some 16) rfl rfl (sf_extract rfl rfl rfl ?_)
  refine XK.st (some 17) rfl rfl (sf_extract rfl rfl rfl ?_)
  refine XK.st (some 2) rfl rfl (sf_assign (v := .d (.val (sV (x7.1)))) rfl rfl ?_)
  refine XK.st (some 3) rfl rfl (sf_assign (v := .d (.val (.int .i64 (x7.2)))) rfl rfl ?_)
  refine XK.nil (nrm ?_)
  refine QW.seq ?_
  refine QW.region (Nat.zero_le _) (PW.regT (by kernel_rfl) ?_)
  obtain ⟨x9, hx10, h⟩ := bO h
  refine XK.st (some 19) rfl rfl (sf_call rfl rfl TT.enters_103 rfl (sim_rlp_Whole ([200, 131, 99, 97, 116, 131, 100, 111, 103] : List UInt8) _ hx10) ?_)
  refine XK.st (some 18) rfl rfl (sf_move (v := .d (.tuple [.agg (cItem (x9.1)), .val (.int .i64 (x9.2))])) rfl rfl ?_)
  refine XK.st (some 20) rfl rfl (sf_extract rfl rfl rfl ?_)
  refine XK.st (some 21) rfl rfl (sf_extract rfl rfl rfl ?_)
  refine XK.st (some 4) rfl rfl (sf_alloc (l := [.d (.val (.bool false)), .d (.val (sV ([] : List UInt8))), .full (([] : (List Item)).map eItem)]) rfl TT.zeroA_80 rfl rfl ?_)
  refine XK.st none rfl rfl (sf_stV (l' := [.d (.val (.bool ((x9.1).fList))), .d (.val (sV ((x9.1).fS))), .d (.slice (((x9.1).fL).map eItem))]) rfl TT.tyA_80 rfl rfl rfl rfl rfl rfl (by simp) rfl ?_)
  refine XK.st (some 5) rfl rfl (sf_assign (v := .d (.val (.int .i64 (x9.2)))) rfl rfl ?_)
  refine XK.nil (nrm ?_)
  refine QW.seq ?_
  refine QW.view (s' := ⟨tab [(1, .vptr 0 0), (2, .d (.val (sV (x7.1)))), (3, .d (.val (.int .i64 (x7.2)))), (4, .vptr 1 0), (5, .d (.val (.int .i64 (x9.2))))], tabH [.var [.d (.val (.bool (x5.fList))), .d (.val (sV (x5.fS))), .d (.slice ((x5.fL).map eItem))], .var [.d (.val (.bool ((x9.1).fList))), .d (.val (sV ((x9.1).fS))), .d (.slice (((x9.1).fL).map eItem))]], 2, []⟩) (View.mk 2 [0, 1] _ _ _ rfl rfl (by decide) (And.intro (Imp.of_eq rfl) (And.intro (Imp.of_eq rfl) (And.intro (Imp.of_eq rfl) (And.intro (Imp.of_eq rfl) (And.intro (Imp.of_eq rfl) trivial))))) (And.intro rfl (And.intro rfl trivial)) rfl (Nat.zero_le _) rfl) (Nat.zero_le _) ?_
  refine QW.region (Nat.zero_le _) (PW.regT (by kernel_rfl) ?_)
  obtain ⟨x11, hx12, h⟩ := bO h
  refine XK.st (some 23) rfl rfl (sf_call rfl rfl TT.enters_104 rfl (sim_rlp_Get ([97, 57] : List UInt8) _ hx12) ?_)
  refine XK.st (some 22) rfl rfl (sf_move (v := .d (.tuple [.agg (cItem (x11.1)), .val (.int .i64 (x11.2.1)), .val (.int .i64 (x11.2.2))])) rfl rfl ?_)
  refine XK.st (some 24) rfl rfl (sf_extract rfl rfl rfl ?_)
  refine XK.st (some 25) rfl rfl (sf_extract rfl rfl rfl ?_)
  refine XK.st (some 26) rfl rfl (sf_extract rfl rfl rfl ?_)
  refine XK.st (some 6) rfl rfl (sf_alloc (l := [.d (.val (.bool false)), .d (.val (sV ([] : List UInt8))), .full (([] : (List Item)).map eItem)]) rfl TT.zeroA_80 rfl rfl ?_)
  refine XK.st none rfl rfl (sf_stV (l' := [.d (.val (.bool ((x11.1).fList))), .d (.val (sV ((x11.1).fS))), .d (.slice (((x11.1).fL).map eItem))]) rfl TT.tyA_80 rfl rfl rfl rfl rfl rfl (by simp) rfl ?_)
  refine XK.st (some 7) rfl rfl (sf_assign (v := .d (.val (.int .i64 (x11.2.1)))) rfl rfl ?_)
  refine XK.st (some 8) rfl rfl (sf_assign (v := .d (.val (.int .i64 (x11.2.2)))) rfl rfl ?_)
  refine XK.nil (nrm ?_)
  refine QW.seq ?_
  refine QW.region (Nat.zero_le _) (PW.regT (by kernel_rfl) ?_)
  refine XK.st (some 27) rfl rfl (sf_move (v := .d (.val (sV (x7.1)))) rfl rfl ?_)
  refine XK.st (some 28) rfl rfl (sf_seq (a := x7.1) (b := ([200, 131, 99, 97, 116, 131, 100, 111, 103] : List UInt8)) rfl rfl rfl ?_)
  refine XK.st (some 29) rfl rfl (sf_move (v := .d (.val (.bool (x7.1 == ([200, 131, 99, 97, 116, 131, 100, 111, 103] : List UInt8))))) rfl rfl ?_)
  refine XK.gd (v := .d (.val (.int .i64 (x7.2)))) (T := []) (some 30) rfl rfl (by repeat (first | exact trivial | refine And.intro (fun hg => by first | rfl | exact hg | exact (Bool.and_eq_true_iff.mp hg).1 | exact (Bool.and_eq_true_iff.mp (Bool.and_eq_true_iff.mp hg).1).1) ?_)) (fun hg => sf_move (v := .d (.val (.int .i64 (x7.2)))) rfl rfl ⟨⟨rfl, rfl, rfl⟩, rfl, Imp.refl⟩) (fun _ _ hi => nomatch hi) ?_
  refine XK.gd (v := .d (.val (.bool (decide ((x7.2) = (0 : Int)))))) (T := []) (some 31) rfl rfl (by repeat (first | exact trivial | refine And.intro (fun hg => by first | rfl | exact hg | exact (Bool.and_eq_true_iff.mp hg).1 | exact (Bool.and_eq_true_iff.mp (Bool.and_eq_true_iff.mp hg).1).1) ?_)) (fun hg => sf_eq (a := (x7.2)) (b := (0 : Int)) rfl rfl rfl ⟨⟨rfl, rfl, rfl⟩, rfl, Imp.refl⟩) (fun _ _ hi => nomatch hi) ?_
  refine XK.st (some 32) rfl rfl (sf_pickA rfl rfl rfl rfl (fun hb => by rw [hb]; rfl) (fun _ => rfl) ?_)
  refine XK.st (some 33) rfl rfl (sf_move (v := .d (.val (.bool ((x7.1 == ([200, 131, 99, 97, 116, 131, 100, 111, 103] : List UInt8)) && (decide ((x7.2) = (0 : Int))))))) rfl rfl ?_)
  refine XK.gd (v := .d (.agg (cItem x5))) (T := [0]) (some 34) rfl rfl (by repeat (first | exact trivial | refine And.intro (fun hg => by first | rfl | exact hg | exact (Bool.and_eq_true_iff.mp hg).1 | exact (Bool.and_eq_true_iff.mp (Bool.and_eq_true_iff.mp hg).1).1) ?_)) (fun hg => sf_ldV (v := .agg [.d (.val (.bool (x5.fList))), .d (.val (sV (x5.fS))), .d (.slice ((x5.fL).map eItem))]) rfl TT.tyA_80 rfl rfl ⟨⟨by simp, by simp⟩, rfl⟩ ⟨⟨rfl, rfl, rfl⟩, rfl, (Imp.toD rfl)⟩) (fun _ i hi => by simp only [List.mem_singleton] at hi; subst hi; decide) ?_
  refine XK.gd (v := .d (.agg (cItem (x9.1)))) (T := [1]) (some 35) rfl rfl (by repeat (first | exact trivial | refine And.intro (fun hg => by first | rfl | exact hg | exact (Bool.and_eq_true_iff.mp hg).1 | exact (Bool.and_eq_true_iff.mp (Bool.and_eq_true_iff.mp hg).1).1) ?_)) (fun hg => sf_ldV (v := .agg [.d (.val (.bool ((x9.1).fList))), .d (.val (sV ((x9.1).fS))), .d (.slice (((x9.1).fL).map eItem))]) rfl TT.tyA_80 rfl rfl ⟨⟨by simp, by simp⟩, rfl⟩ ⟨⟨rfl, rfl, rfl⟩, rfl, (Imp.toD rfl)⟩) (fun _ i hi => by simp only [List.mem_singleton] at hi; subst hi; decide) ?_
  obtain ⟨x13, hx14, h⟩ := bO h
  refine XK.gd (v := .d (.val (.bool x13))) (T := []) (some 36) rfl rfl (by repeat (first | exact trivial | refine And.intro (fun hg => by first | rfl | exact hg | exact (Bool.and_eq_true_iff.mp hg).1 | exact (Bool.and_eq_true_iff.mp (Bool.and_eq_true_iff.mp hg).1).1) ?_)) (fun hg => sf_call rfl rfl TT.enters_66 rfl (sim_rlp_Same x5 (x9.1) _ (bT hx14 hg)) ⟨⟨rfl, rfl, rfl⟩, rfl, Imp.refl⟩) (fun _ _ hi => nomatch hi) ?_
  refine XK.st (some 37) rfl rfl (sf_pickA rfl rfl rfl rfl (fun hb => by rw [hb]; rfl) (fun _ => rfl) ?_)
  refine XK.st (some 38) rfl rfl (sf_move (v := .d (.val (.bool (((x7.1 == ([200, 131, 99, 97, 116, 131, 100, 111, 103] : List UInt8)) && (decide ((x7.2) = (0 : Int)))) && x13)))) rfl rfl ?_)
  refine XK.gd (v := .d (.val (.int .i64 (x9.2)))) (T := []) (some 39) rfl rfl (by repeat (first | exact trivial | refine And.intro (fun hg => by first | rfl | exact hg | exact (Bool.and_eq_true_iff.mp hg).1 | exact (Bool.and_eq_true_iff.mp (Bool.and_eq_true_iff.mp hg).1).1) ?_)) (fun hg => sf_move (v := .d (.val (.int .i64 (x9.2)))) rfl rfl ⟨⟨rfl, rfl, rfl⟩, rfl, Imp.refl⟩) (fun _ _ hi => nomatch hi) ?_
  refine XK.gd (v := .d (.val (.bool (decide ((x9.2) = (0 : Int)))))) (T := []) (some 40) rfl rfl (by repeat (first | exact trivial | refine And.intro (fun hg => by first | rfl | exact hg | exact (Bool.and_eq_true_iff.mp hg).1 | exact (Bool.and_eq_true_iff.mp (Bool.and_eq_true_iff.mp hg).1).1) ?_)) (fun hg => sf_eq (a := (x9.2)) (b := (0 : Int)) rfl rfl rfl ⟨⟨rfl, rfl, rfl⟩, rfl, Imp.refl⟩) (fun _ _ hi => nomatch hi) ?_
  refine XK.st (some 41) rfl rfl (sf_pickA rfl rfl rfl rfl (fun hb => by rw [hb]; rfl) (fun _ => rfl) ?_)
  refine XK.st (some 42) rfl rfl (sf_move (v := .d (.val (.bool ((((x7.1 == ([200, 131, 99, 97, 116, 131, 100, 111, 103] : List UInt8)) && (decide ((x7.2) = (0 : Int)))) && x13) && (decide ((x9.2) = (0 : Int))))))) rfl rfl ?_)
  refine XK.gd (v := .d (.val (.int .i64 (x11.2.1)))) (T := []) (some 43) rfl rfl (by repeat (first | exact trivial | refine And.intro (fun hg => by first | rfl | exact hg | exact (Bool.and_eq_true_iff.mp hg).1 | exact (Bool.and_eq_true_iff.mp (Bool.and_eq_true_iff.mp hg).1).1) ?_)) (fun hg => sf_move (v := .d (.val (.int .i64 (x11.2.1)))) rfl rfl ⟨⟨rfl, rfl, rfl⟩, rfl, Imp.refl⟩) (fun _ _ hi => nomatch hi) ?_
  refine XK.gd (v := .d (.val (.bool (decide ((x11.2.1) = (1 : Int)))))) (T := []) (some 44) rfl rfl (by repeat (first | exact trivial | refine And.intro (fun hg => by first | rfl | exact hg | exact (Bool.and_eq_true_iff.mp hg).1 | exact (Bool.and_eq_true_iff.mp (Bool.and_eq_true_iff.mp hg).1).1) ?_)) (fun hg => sf_eq (a := (x11.2.1)) (b := (1 : Int)) rfl rfl rfl ⟨⟨rfl, rfl, rfl⟩, rfl, Imp.refl⟩) (fun _ _ hi => nomatch hi) ?_
  refine XK.st (some 45) rfl rfl (sf_pickA rfl rfl rfl rfl (fun hb => by rw [hb]; rfl) (fun _ => rfl) ?_)
  refine XK.st (some 46) rfl rfl (sf_move (v := .d (.val (.bool (((((x7.1 == ([200, 131, 99, 97, 116, 131, 100, 111, 103] : List UInt8)) && (decide ((x7.2) = (0 : Int)))) && x13) && (decide ((x9.2) = (0 : Int)))) && (decide ((x11.2.1) = (1 : Int))))))) rfl rfl ?_)
  refine XK.gd (v := .d (.val (.int .i64 (x11.2.2)))) (T := []) (some 47) rfl rfl (by repeat (first | exact trivial | refine And.intro (fun hg => by first | rfl | exact hg | exact (Bool.and_eq_true_iff.mp hg).1 | exact (Bool.and_eq_true_iff.mp (Bool.and_eq_true_iff.mp hg).1).1) ?_)) (fun hg => sf_move (v := .d (.val (.int .i64 (x11.2.2)))) rfl rfl ⟨⟨rfl, rfl, rfl⟩, rfl, Imp.refl⟩) (fun _ _ hi => nomatch hi) ?_
  refine XK.gd (v := .d (.val (.bool (decide ((x11.2.2) = (0 : Int)))))) (T := []) (some 48) rfl rfl (by repeat (first | exact trivial | refine And.intro (fun hg => by first | rfl | exact hg | exact (Bool.and_eq_true_iff.mp hg).1 | exact (Bool.and_eq_true_iff.mp (Bool.and_eq_true_iff.mp hg).1).1) ?_)) (fun hg => sf_eq (a := (x11.2.2)) (b := (0 : Int)) rfl rfl rfl ⟨⟨rfl, rfl, rfl⟩, rfl, Imp.refl⟩) (fun _ _ hi => nomatch hi) ?_
  refine XK.st (some 49) rfl rfl (sf_pickA rfl rfl rfl rfl (fun hb => by rw [hb]; rfl) (fun _ => rfl) ?_)
  refine XK.st (some 50) rfl rfl (sf_move (v := .d (.val (.bool ((((((x7.1 == ([200, 131, 99, 97, 116, 131, 100, 111, 103] : List UInt8)) && (decide ((x7.2) = (0 : Int)))) && x13) && (decide ((x9.2) = (0 : Int)))) && (decide ((x11.2.1) = (1 : Int)))) && (decide ((x11.2.2) = (0 : Int))))))) rfl rfl ?_)
  refine XK.gd (v := .d (.agg (cItem x5))) (T := [0]) (some 51) rfl rfl (by repeat (first | exact trivial | refine And.intro (fun hg => by first | rfl | exact hg | exact (Bool.and_eq_true_iff.mp hg).1 | exact (Bool.and_eq_true_iff.mp (Bool.and_eq_true_iff.mp hg).1).1) ?_)) (fun hg => sf_ldV (v := .agg [.d (.val (.bool (x5.fList))), .d (.val (sV (x5.fS))), .d (.slice ((x5.fL).map eItem))]) rfl TT.tyA_80 rfl rfl ⟨⟨by simp, by simp⟩, rfl⟩ ⟨⟨rfl, rfl, rfl⟩, rfl, (Imp.toD rfl)⟩) (fun _ i hi => by simp only [List.mem_singleton] at hi; subst hi; decide) ?_
  obtain ⟨x15, hx16, h⟩ := bO h
  refine XK.gd (v := .d (.val (.int .i64 x15))) (T := []) (some 52) rfl rfl (by repeat (first | exact trivial | refine And.intro (fun hg => by first | rfl | exact hg | exact (Bool.and_eq_true_iff.mp hg).1 | exact (Bool.and_eq_true_iff.mp (Bool.and_eq_true_iff.mp hg).1).1) ?_)) (fun hg => sf_call rfl rfl TT.enters_105 rfl (sim_rlp_Count x5 _ (bT hx16 hg)) ⟨⟨rfl, rfl, rfl⟩, rfl, Imp.refl⟩) (fun _ _ hi => nomatch hi) ?_
  refine XK.gd (v := .d (.val (.bool (decide (x15 = (3 : Int)))))) (T := []) (some 53) rfl rfl (by repeat (first | exact trivial | refine And.intro (fun hg => by first | rfl | exact hg | exact (Bool.and_eq_true_iff.mp hg).1 | exact (Bool.and_eq_true_iff.mp (Bool.and_eq_true_iff.mp hg).1).1) ?_)) (fun hg => sf_eq (a := x15) (b := (3 : Int)) rfl rfl rfl ⟨⟨rfl, rfl, rfl⟩, rfl, Imp.refl⟩) (fun _ _ hi => nomatch hi) ?_
  refine XK.st (some 54) rfl rfl (sf_pickA rfl rfl rfl rfl (fun hb => by rw [hb]; rfl) (fun _ => rfl) ?_)
  refine XK.st (some 55) rfl rfl (sf_move (v := .d (.val (.bool (((((((x7.1 == ([200, 131, 99, 97, 116, 131, 100, 111, 103] : List UInt8)) && (decide ((x7.2) = (0 : Int)))) && x13) && (decide ((x9.2) = (0 : Int)))) && (decide ((x11.2.1) = (1 : Int)))) && (decide ((x11.2.2) = (0 : Int)))) && (decide (x15 = (3 : Int))))))) rfl rfl ?_)
  obtain ⟨x17, hx18, h⟩ := bO h
  refine XK.gd (v := .d (.val (sV x17))) (T := []) (some 56) rfl rfl (by repeat (first | exact trivial | refine And.intro (fun hg => by first | rfl | exact hg | exact (Bool.and_eq_true_iff.mp hg).1 | exact (Bool.and_eq_true_iff.mp (Bool.and_eq_true_iff.mp hg).1).1) ?_)) (fun hg => sf_call rfl rfl TT.enters_64 rfl (sim_rlp_Head (56) false _ (bT hx18 hg)) ⟨⟨rfl, rfl, rfl⟩, rfl, Imp.refl⟩) (fun _ _ hi => nomatch hi) ?_
  refine XK.gd (v := .d (.val (.bool (x17 == ([184, 56] : List UInt8))))) (T := []) (some 57) rfl rfl (by repeat (first | exact trivial | refine And.intro (fun hg => by first | rfl | exact hg | exact (Bool.and_eq_true_iff.mp hg).1 | exact (Bool.and_eq_true_iff.mp (Bool.and_eq_true_iff.mp hg).1).1) ?_)) (fun hg => sf_seq (a := x17) (b := ([184, 56] : List UInt8)) rfl rfl rfl ⟨⟨rfl, rfl, rfl⟩, rfl, Imp.refl⟩) (fun _ _ hi => nomatch hi) ?_
  refine XK.st (some 58) rfl rfl (sf_pickA rfl rfl rfl rfl (fun hb => by rw [hb]; rfl) (fun _ => rfl) ?_)
  refine XK.st (some 0) rfl rfl (sf_assign (v := .d (.val (.bool ((((((((x7.1 == ([200, 131, 99, 97, 116, 131, 100, 111, 103] : List UInt8)) && (decide ((x7.2) = (0 : Int)))) && x13) && (decide ((x9.2) = (0 : Int)))) && (decide ((x11.2.1) = (1 : Int)))) && (decide ((x11.2.2) = (0 : Int)))) && (decide (x15 = (3 : Int)))) && (x17 == ([184, 56] : List UInt8)))))) rfl rfl ?_)
  refine XK.nil (nrm ?_)
  refine QW.ret (Nat.zero_le _) ?_
  obtain rfl := sO h
  exact Ends.one (.inr rfl) rfl (ResIs.tmp rfl) rfl rfl

noncomputable def g_law05_RlpHeads (q0 : Four) : Option Bool :=
    ((g_law05_light (q0.fA)).bind fun (x1 : Bool) =>
    ((bif ((!x1) == false) then g_law05_light (q0.fB) else some default).bind fun (x3 : Bool) =>
    (bif ((!x1) || (!x3)) then
    ((g_law05_awake ).bind fun (x6 : Bool) =>
    some x6)
    else
    ((g_ref01_Low (q0.fN) (4294967296)).bind fun (x8 : Int) =>
    ((g_ref01_High x8 (0)).bind fun (x10 : Int) =>
    ((g_law05_awake ).bind fun (x12 : Bool) =>
    ((bif (x12 == true) then g_rlp_Head (q0.fN) (q0.fList) else some default).bind fun (x14 : (List UInt8)) =>
    ((bif (x12 == true) then g_ref05_Head x10 (q0.fList) else some default).bind fun (x16 : (List UInt8)) =>
    ((bif ((x12 && (x14 == x16)) == true) then g_rlp_Same (q0.fA) (q0.fB) else some default).bind fun (x18 : Bool) =>
    ((bif ((x12 && (x14 == x16)) == true) then g_ref05_Same (q0.fA) (q0.fB) else some default).bind fun (x20 : Bool) =>
    ((bif (((x12 && (x14 == x16)) && (x18 == x20)) == true) then g_rlp_Text ([120] : List UInt8) else some default).bind fun (x22 : Item) =>
    ((bif (((x12 && (x14 == x16)) && (x18 == x20)) == true) then g_rlp_Same x22 (⟨false, ([120] : List UInt8), ([] : (List Item))⟩ : Item) else some default).bind fun (x24 : Bool) =>
    ((bif ((((x12 && (x14 == x16)) && (x18 == x20)) && x24) == true) then g_rlp_List ([q0.fA, q0.fB] : List Item) else some default).bind fun (x26 : Item) =>
    ((bif ((((x12 && (x14 == x16)) && (x18 == x20)) && x24) == true) then g_rlp_Same x26 (⟨true, ([] : List UInt8), ([q0.fA, q0.fB] : List Item)⟩ : Item) else some default).bind fun (x28 : Bool) =>
    some ((((x12 && (x14 == x16)) && (x18 == x20)) && x24) && x28)))))))))))))))

set_option maxRecDepth 20000 in
set_option maxHeartbeats 4000000 in
theorem sim_law05_RlpHeads (q0 : Four) (r : Bool) (h : g_law05_RlpHeads q0 = some r) : Fun Try.prog 11 [.agg (cFour q0)] (.val (.bool r)) := by
  refine Fun.of_bodyQ Try.func11 rfl (by simp [Try.ntmps11]) ?_
  rw [Try.ntmps11, TT.res_11]
  refine QW.view (s' := ⟨tab [(0, .d (.agg (cFour q0)))], tabH [], 0, []⟩) (View.init (by rfl)) (Nat.zero_le _) ?_
  unfold g_law05_RlpHeads at h
  refine QW.seq ?_
  refine QW.region (Nat.zero_le _) (PW.regT (by kernel_rfl) ?_)
  refine XK.fz (some 1) rfl rfl (sf_boxF (ds := cFour q0) rfl rfl rfl rfl rfl ?_)
  refine XK.st (some 2) rfl rfl (sf_assign (v := .d (.val (.bool false))) rfl rfl ?_)
  refine XK.nil (nrm ?_)
  refine QW.seq ?_
  refine QW.region (Nat.zero_le _) (PW.regK (id := 1) mixedX (M := _) rfl (by kernel_rfl) ?_)
  refine RK.st (some 8) rfl rfl (sf_fldC rfl TT.fldA_82_0 (by decide) rfl ?_)
  refine RK.st (some 9) rfl rfl (sf_ldC (d := .val (.int .i64 (q0.fN))) rfl TT.tyA_3 rfl (LdC.one) ?_)
  refine RK.st (some 10) rfl rfl (sf_fldC rfl TT.fldA_82_1 (by decide) rfl ?_)
  refine RK.st (some 11) rfl rfl (sf_ldC (d := .val (.bool (q0.fList))) rfl TT.tyA_4 rfl (LdC.one) ?_)
  refine RK.st (some 12) rfl rfl (sf_fldC rfl TT.fldA_82_2 (by decide) rfl ?_)
  refine RK.st (some 13) rfl rfl (sf_ldC (d := .agg (cItem (q0.fA))) rfl TT.tyA_80 rfl (⟨by simp [cFour, cItem, cItem], rfl⟩) ?_)
  refine RK.st (some 14) rfl rfl (sf_fldC rfl TT.fldA_82_3 (by decide) rfl ?_)
  refine RK.st (some 15) rfl rfl (sf_ldC (d := .agg (cItem (q0.fB))) rfl TT.tyA_80 rfl (⟨by simp [cFour, cItem, cItem], rfl⟩) ?_)
  refine RK.st (some 5) rfl rfl (sf_alloc (l := [.d (.val (.bool false)), .d (.val (sV ([] : List UInt8))), .full (([] : (List Item)).map eItem)]) rfl TT.zeroA_80 rfl rfl ?_)
  refine RK.st (some 6) rfl rfl (sf_alloc (l := [.d (.val (.bool false)), .d (.val (sV ([] : List UInt8))), .full (([] : (List Item)).map eItem)]) rfl TT.zeroA_80 rfl rfl ?_)
  refine RK.st (some 3) rfl rfl (sf_assign (v := .d (.val (.int .i64 (q0.fN)))) rfl rfl ?_)
  refine RK.st (some 4) rfl rfl (sf_assign (v := .d (.val (.bool (q0.fList)))) rfl rfl ?_)
  refine RK.st none rfl rfl (sf_stV (l' := [.d (.val (.bool ((q0.fA).fList))), .d (.val (sV ((q0.fA).fS))), .d (.slice (((q0.fA).fL).map eItem))]) rfl TT.tyA_80 rfl rfl rfl rfl rfl rfl (by simp) rfl ?_)
  refine RK.st none rfl rfl (sf_stV (l' := [.d (.val (.bool ((q0.fB).fList))), .d (.val (sV ((q0.fB).fS))), .d (.slice (((q0.fB).fL).map eItem))]) rfl TT.tyA_80 rfl rfl rfl rfl rfl rfl (by simp) rfl ?_)
  refine RK.nil ⟨RecsOK.comp (by rfl), (nrm ?_)⟩
  refine QW.seq ?_
  refine QW.seq ?_
  refine QW.view (s' := ⟨tab [(3, .d (.val (.int .i64 (q0.fN)))), (4, .d (.val (.bool (q0.fList)))), (5, .vptr 0 0), (6, .vptr 1 0)], tabH [.var [.d (.val (.bool ((q0.fA).fList))), .d (.val (sV ((q0.fA).fS))), .d (.slice (((q0.fA).fL).map eItem))], .var [.d (.val (.bool ((q0.fB).fList))), .d (.val (sV ((q0.fB).fS))), .d (.slice (((q0.fB).fL).map eItem))]], 2, []⟩) (View.mk 2 [0, 1] _ _ _ rfl rfl (by decide) (And.intro (Imp.of_eq rfl) (And.intro (Imp.of_eq rfl) (And.intro (Imp.of_eq rfl) (And.intro (Imp.of_eq rfl) trivial)))) (And.intro rfl (And.intro rfl trivial)) rfl (Nat.zero_le _) rfl) (Nat.zero_le _) ?_
  refine QW.region (Nat.zero_le _) (PW.regT (by kernel_rfl) ?_)
  refine XK.as (some 16) rfl rfl (sf_ldV (v := .agg [.d (.val (.bool ((q0.fA).fList))), .d (.val (sV ((q0.fA).fS))), .d (.slice (((q0.fA).fL).map eItem))]) rfl TT.tyA_80 rfl rfl ⟨⟨by simp, by simp⟩, rfl⟩ ⟨.d (.agg (cItem (q0.fA))), (Imp.toD rfl), ?_⟩)
  obtain ⟨x1, hx2, h⟩ := bO h
  refine XK.st (some 17) rfl rfl (sf_call rfl rfl TT.enters_62 rfl (sim_law05_light (q0.fA) _ hx2) ?_)
  refine XK.st (some 18) rfl rfl (sf_not rfl rfl ?_)
  refine XK.st (some 19) rfl rfl (sf_move (v := .d (.val (.bool (!x1)))) rfl rfl ?_)
  refine XK.gd (v := .d (.agg (cItem (q0.fB)))) (T := [1]) (some 20) rfl rfl (by repeat (first | exact trivial | refine And.intro (fun hg => by first | rfl | exact hg | exact (Bool.and_eq_true_iff.mp hg).1 | exact (Bool.and_eq_true_iff.mp (Bool.and_eq_true_iff.mp hg).1).1) ?_)) (fun hg => sf_ldV (v := .agg [.d (.val (.bool ((q0.fB).fList))), .d (.val (sV ((q0.fB).fS))), .d (.slice (((q0.fB).fL).map eItem))]) rfl TT.tyA_80 rfl rfl ⟨⟨by simp, by simp⟩, rfl⟩ ⟨⟨rfl, rfl, rfl⟩, rfl, (Imp.toD rfl)⟩) (fun _ i hi => by simp only [List.mem_singleton] at hi; subst hi; decide) ?_
  obtain ⟨x3, hx4, h⟩ := bO h
  refine XK.gd (v := .d (.val (.bool x3))) (T := []) (some 21) rfl rfl (by repeat (first | exact trivial | refine And.intro (fun hg => by first | rfl | exact hg | exact (Bool.and_eq_true_iff.mp hg).1 | exact (Bool.and_eq_true_iff.mp (Bool.and_eq_true_iff.mp hg).1).1) ?_)) (fun hg => sf_call rfl rfl TT.enters_62 rfl (sim_law05_light (q0.fB) _ (bT hx4 hg)) ⟨⟨rfl, rfl, rfl⟩, rfl, Imp.refl⟩) (fun _ _ hi => nomatch hi) ?_
  refine XK.gd (v := .d (.val (.bool (!x3)))) (T := []) (some 22) rfl rfl (by repeat (first | exact trivial | refine And.intro (fun hg => by first | rfl | exact hg | exact (Bool.and_eq_true_iff.mp hg).1 | exact (Bool.and_eq_true_iff.mp (Bool.and_eq_true_iff.mp hg).1).1) ?_)) (fun hg => sf_not rfl rfl ⟨⟨rfl, rfl, rfl⟩, rfl, Imp.refl⟩) (fun _ _ hi => nomatch hi) ?_
  refine XK.st (some 23) rfl rfl (sf_pickO rfl rfl rfl rfl (fun _ => rfl) (fun hb => by rw [hb]; rfl) ?_)
  refine XK.nil (nrm ?_)
  refine QW.cond (t := ((!x1) || (!x3))) rfl (Nat.zero_le _) (fun hb5 => ?_) (fun hb5 => ?_)
  · replace h := bT h hb5
    refine QW.seq ?_
    refine QW.region (Nat.zero_le _) (PW.regT (by kernel_rfl) ?_)
    obtain ⟨x6, hx7, h⟩ := bO h
    refine XK.st (some 24) rfl rfl (sf_call rfl rfl TT.enters_63 rfl (sim_law05_awake  _ hx7) ?_)
    refine XK.st (some 2) rfl rfl (sf_assign (v := .d (.val (.bool x6))) rfl rfl ?_)
    refine XK.nil (nrm ?_)
    refine QW.ret (Nat.zero_le _) (thR ?_)
    obtain rfl := sO h
    exact Ends.one (.inr rfl) rfl (ResIs.tmp rfl) rfl rfl
  · replace h := bF h hb5
    refine QW.skip (Nat.zero_le _) (nrm ?_)
    refine QW.seq ?_
    refine QW.region (Nat.zero_le _) (PW.regT (by kernel_rfl) ?_)
    refine XK.st (some 25) rfl rfl (sf_move (v := .d (.val (.int .i64 (q0.fN)))) rfl rfl ?_)
    obtain ⟨x8, hx9, h⟩ := bO h
    refine XK.st (some 26) rfl rfl (sf_call rfl rfl TT.enters_57 rfl (sim_ref01_Low (q0.fN) (4294967296) _ hx9) ?_)
    obtain ⟨x10, hx11, h⟩ := bO h
    refine XK.st (some 27) rfl rfl (sf_call rfl rfl TT.enters_56 rfl (sim_ref01_High x8 (0) _ hx11) ?_)
    refine XK.st (some 7) rfl rfl (sf_assign (v := .d (.val (.int .i64 x10))) rfl rfl ?_)
    refine XK.nil (nrm ?_)
    refine QW.seq ?_
    refine QW.region (Nat.zero_le _) (PW.regQ (id := 5) mixedX (M := _) rfl (by kernel_rfl) ?_)
    obtain ⟨x12, hx13, h⟩ := bO h
    refine RQ.st (some 28) rfl rfl (sf_call rfl rfl TT.enters_63 rfl (sim_law05_awake  _ hx13) ⟨⟨rfl, rfl⟩, ?_⟩)
    refine RQ.st (some 29) rfl rfl (sf_move (v := .d (.val (.bool x12))) rfl rfl ⟨⟨rfl, rfl⟩, ?_⟩)
    refine RQ.gd (v := .d (.val (.int .i64 (q0.fN)))) (T := []) (some 30) rfl rfl (by repeat (first | exact trivial | refine And.intro (fun hg => by first | rfl | exact hg | exact (Bool.and_eq_true_iff.mp hg).1 | exact (Bool.and_eq_true_iff.mp (Bool.and_eq_true_iff.mp hg).1).1) ?_)) (fun hg => sf_move (v := .d (.val (.int .i64 (q0.fN)))) rfl rfl ⟨⟨rfl, rfl, rfl⟩, rfl, Imp.refl⟩) (fun _ _ hi => nomatch hi) ?_
    refine RQ.gd (v := .d (.val (.bool (q0.fList)))) (T := []) (some 31) rfl rfl (by repeat (first | exact trivial | refine And.intro (fun hg => by first | rfl | exact hg | exact (Bool.and_eq_true_iff.mp hg).1 | exact (Bool.and_eq_true_iff.mp (Bool.and_eq_true_iff.mp hg).1).1) ?_)) (fun hg => sf_move (v := .d (.val (.bool (q0.fList)))) rfl rfl ⟨⟨rfl, rfl, rfl⟩, rfl, Imp.refl⟩) (fun _ _ hi => nomatch hi) ?_
    obtain ⟨x14, hx15, h⟩ := bO h
    refine RQ.gd (v := .d (.val (sV x14))) (T := []) (some 32) rfl rfl (by repeat (first | exact trivial | refine And.intro (fun hg => by first | rfl | exact hg | exact (Bool.and_eq_true_iff.mp hg).1 | exact (Bool.and_eq_true_iff.mp (Bool.and_eq_true_iff.mp hg).1).1) ?_)) (fun hg => sf_call rfl rfl TT.enters_64 rfl (sim_rlp_Head (q0.fN) (q0.fList) _ (bT hx15 hg)) ⟨⟨rfl, rfl, rfl⟩, rfl, Imp.refl⟩) (fun _ _ hi => nomatch hi) ?_
    refine RQ.gd (v := .d (.val (.int .i64 x10))) (T := []) (some 33) rfl rfl (by repeat (first | exact trivial | refine And.intro (fun hg => by first | rfl | exact hg | exact (Bool.and_eq_true_iff.mp hg).1 | exact (Bool.and_eq_true_iff.mp (Bool.and_eq_true_iff.mp hg).1).1) ?_)) (fun hg => sf_move (v := .d (.val (.int .i64 x10))) rfl rfl ⟨⟨rfl, rfl, rfl⟩, rfl, Imp.refl⟩) (fun _ _ hi => nomatch hi) ?_
    refine RQ.gd (v := .d (.val (.bool (q0.fList)))) (T := []) (some 34) rfl rfl (by repeat (first | exact trivial | refine And.intro (fun hg => by first | rfl | exact hg | exact (Bool.and_eq_true_iff.mp hg).1 | exact (Bool.and_eq_true_iff.mp (Bool.and_eq_true_iff.mp hg).1).1) ?_)) (fun hg => sf_move (v := .d (.val (.bool (q0.fList)))) rfl rfl ⟨⟨rfl, rfl, rfl⟩, rfl, Imp.refl⟩) (fun _ _ hi => nomatch hi) ?_
    obtain ⟨x16, hx17, h⟩ := bO h
    refine RQ.gd (v := .d (.val (sV x16))) (T := []) (some 35) rfl rfl (by repeat (first | exact trivial | refine And.intro (fun hg => by first | rfl | exact hg | exact (Bool.and_eq_true_iff.mp hg).1 | exact (Bool.and_eq_true_iff.mp (Bool.and_eq_true_iff.mp hg).1).1) ?_)) (fun hg => sf_call rfl rfl TT.enters_65 rfl (sim_ref05_Head x10 (q0.fList) _ (bT hx17 hg)) ⟨⟨rfl, rfl, rfl⟩, rfl, Imp.refl⟩) (fun _ _ hi => nomatch hi) ?_
    refine RQ.gd (v := .d (.val (.bool (x14 == x16)))) (T := []) (some 36) rfl rfl (by repeat (first | exact trivial | refine And.intro (fun hg => by first | rfl | exact hg | exact (Bool.and_eq_true_iff.mp hg).1 | exact (Bool.and_eq_true_iff.mp (Bool.and_eq_true_iff.mp hg).1).1) ?_)) (fun hg => sf_seq (a := x14) (b := x16) rfl rfl rfl ⟨⟨rfl, rfl, rfl⟩, rfl, Imp.refl⟩) (fun _ _ hi => nomatch hi) ?_
    refine RQ.st (some 37) rfl rfl (sf_pickA rfl rfl rfl rfl (fun hb => by rw [hb]; rfl) (fun _ => rfl) ⟨⟨rfl, rfl⟩, ?_⟩)
    refine RQ.st (some 38) rfl rfl (sf_move (v := .d (.val (.bool (x12 && (x14 == x16))))) rfl rfl ⟨⟨rfl, rfl⟩, ?_⟩)
    refine RQ.gd (v := .d (.agg (cItem (q0.fA)))) (T := [0]) (some 39) rfl rfl (by repeat (first | exact trivial | refine And.intro (fun hg => by first | rfl | exact hg | exact (Bool.and_eq_true_iff.mp hg).1 | exact (Bool.and_eq_true_iff.mp (Bool.and_eq_true_iff.mp hg).1).1) ?_)) (fun hg => sf_ldV (v := .agg [.d (.val (.bool ((q0.fA).fList))), .d (.val (sV ((q0.fA).fS))), .d (.slice (((q0.fA).fL).map eItem))]) rfl TT.tyA_80 rfl rfl ⟨⟨by simp, by simp⟩, rfl⟩ ⟨⟨rfl, rfl, rfl⟩, rfl, (Imp.toD rfl)⟩) (fun _ i hi => by simp only [List.mem_singleton] at hi; subst hi; decide) ?_
    refine RQ.gd (v := .d (.agg (cItem (q0.fB)))) (T := [1]) (some 40) rfl rfl (by repeat (first | exact trivial | refine And.intro (fun hg => by first | rfl | exact hg | exact (Bool.and_eq_true_iff.mp hg).1 | exact (Bool.and_eq_true_iff.mp (Bool.and_eq_true_iff.mp hg).1).1) ?_)) (fun hg => sf_ldV (v := .agg [.d (.val (.bool ((q0.fB).fList))), .d (.val (sV ((q0.fB).fS))), .d (.slice (((q0.fB).fL).map eItem))]) rfl TT.tyA_80 rfl rfl ⟨⟨by simp, by simp⟩, rfl⟩ ⟨⟨rfl, rfl, rfl⟩, rfl, (Imp.toD rfl)⟩) (fun _ i hi => by simp only [List.mem_singleton] at hi; subst hi; decide) ?_
    obtain ⟨x18, hx19, h⟩ := bO h
    refine RQ.gd (v := .d (.val (.bool x18))) (T := []) (some 41) rfl rfl (by repeat (first | exact trivial | refine And.intro (fun hg => by first | rfl | exact hg | exact (Bool.and_eq_true_iff.mp hg).1 | exact (Bool.and_eq_true_iff.mp (Bool.and_eq_true_iff.mp hg).1).1) ?_)) (fun hg => sf_call rfl rfl TT.enters_66 rfl (sim_rlp_Same (q0.fA) (q0.fB) _ (bT hx19 hg)) ⟨⟨rfl, rfl, rfl⟩, rfl, Imp.refl⟩) (fun _ _ hi => nomatch hi) ?_
    refine RQ.gd (v := .d (.agg (cItem (q0.fA)))) (T := [0]) (some 42) rfl rfl (by repeat (first | exact trivial | refine And.intro (fun hg => by first | rfl | exact hg | exact (Bool.and_eq_true_iff.mp hg).1 | exact (Bool.and_eq_true_iff.mp (Bool.and_eq_true_iff.mp hg).1).1) ?_)) (fun hg => sf_ldV (v := .agg [.d (.val (.bool ((q0.fA).fList))), .d (.val (sV ((q0.fA).fS))), .d (.slice (((q0.fA).fL).map eItem))]) rfl TT.tyA_80 rfl rfl ⟨⟨by simp, by simp⟩, rfl⟩ ⟨⟨rfl, rfl, rfl⟩, rfl, (Imp.toD rfl)⟩) (fun _ i hi => by simp only [List.mem_singleton] at hi; subst hi; decide) ?_
    refine RQ.gd (v := .d (.agg (cItem (q0.fB)))) (T := [1]) (some 43) rfl rfl (by repeat (first | exact trivial | refine And.intro (fun hg => by first | rfl | exact hg | exact (Bool.and_eq_true_iff.mp hg).1 | exact (Bool.and_eq_true_iff.mp (Bool.and_eq_true_iff.mp hg).1).1) ?_)) (fun hg => sf_ldV (v := .agg [.d (.val (.bool ((q0.fB).fList))), .d (.val (sV ((q0.fB).fS))), .d (.slice (((q0.fB).fL).map eItem))]) rfl TT.tyA_80 rfl rfl ⟨⟨by simp, by simp⟩, rfl⟩ ⟨⟨rfl, rfl, rfl⟩, rfl, (Imp.toD rfl)⟩) (fun _ i hi => by simp only [List.mem_singleton] at hi; subst hi; decide) ?_
    obtain ⟨x20, hx21, h⟩ := bO h
    refine RQ.gd (v := .d (.val (.bool x20))) (T := []) (some 44) rfl rfl (by repeat (first | exact trivial | refine And.intro (fun hg => by first | rfl | exact hg | exact (Bool.and_eq_true_iff.mp hg).1 | exact (Bool.and_eq_true_iff.mp (Bool.and_eq_true_iff.mp hg).1).1) ?_)) (fun hg => sf_call rfl rfl TT.enters_67 rfl (sim_ref05_Same (q0.fA) (q0.fB) _ (bT hx21 hg)) ⟨⟨rfl, rfl, rfl⟩, rfl, Imp.refl⟩) (fun _ _ hi => nomatch hi) ?_
    refine RQ.gd (v := .d (.val (.bool (x18 == x20)))) (T := []) (some 45) rfl rfl (by repeat (first | exact trivial | refine And.intro (fun hg => by first | rfl | exact hg | exact (Bool.and_eq_true_iff.mp hg).1 | exact (Bool.and_eq_true_iff.mp (Bool.and_eq_true_iff.mp hg).1).1) ?_)) (fun hg => sf_beq (a := x18) (b := x20) rfl TT.under_4 rfl rfl ⟨⟨rfl, rfl, rfl⟩, rfl, Imp.refl⟩) (fun _ _ hi => nomatch hi) ?_
    refine RQ.st (some 46) rfl rfl (sf_pickA rfl rfl rfl rfl (fun hb => by rw [hb]; rfl) (fun _ => rfl) ⟨⟨rfl, rfl⟩, ?_⟩)
    refine RQ.st (some 47) rfl rfl (sf_move (v := .d (.val (.bool ((x12 && (x14 == x16)) && (x18 == x20))))) rfl rfl ⟨⟨rfl, rfl⟩, ?_⟩)
    obtain ⟨x22, hx23, h⟩ := bO h
    refine RQ.gd (v := .d (.agg (cItem x22))) (T := []) (some 48) rfl rfl (by repeat (first | exact trivial | refine And.intro (fun hg => by first | rfl | exact hg | exact (Bool.and_eq_true_iff.mp hg).1 | exact (Bool.and_eq_true_iff.mp (Bool.and_eq_true_iff.mp hg).1).1) ?_)) (fun hg => sf_call rfl rfl TT.enters_68 rfl (sim_rlp_Text ([120] : List UInt8) _ (bT hx23 hg)) ⟨⟨rfl, rfl, rfl⟩, rfl, Imp.refl⟩) (fun _ _ hi => nomatch hi) ?_
    refine RQ.gd (v := .agg [.d (.val (.bool false)), .d (.val (sV ([120] : List UInt8))), .full (([] : (List Item)).map eItem)]) (T := []) (some 49) rfl rfl (by repeat (first | exact trivial | refine And.intro (fun hg => by first | rfl | exact hg | exact (Bool.and_eq_true_iff.mp hg).1 | exact (Bool.and_eq_true_iff.mp (Bool.and_eq_true_iff.mp hg).1).1) ?_)) (fun hg => sf_bld (v := .agg [.d (.val (.bool false)), .d (.val (sV ([120] : List UInt8))), .full (([] : (List Item)).map eItem)]) rfl TT.bldA_80 (build_of rfl (fill_step (cells' := [.d (.val (.bool false)), .d (.val (sV ([120] : List UInt8))), .full (([] : (List Item)).map eItem)]) rfl rfl rfl (Nat.le_of_ble_eq_true rfl) rfl fill_nil)) ⟨⟨rfl, rfl, rfl⟩, rfl, Imp.refl⟩) (fun _ _ hi => nomatch hi) ?_
    obtain ⟨x24, hx25, h⟩ := bO h
    refine RQ.gd (v := .d (.val (.bool x24))) (T := []) (some 50) rfl rfl (by repeat (first | exact trivial | refine And.intro (fun hg => by first | rfl | exact hg | exact (Bool.and_eq_true_iff.mp hg).1 | exact (Bool.and_eq_true_iff.mp (Bool.and_eq_true_iff.mp hg).1).1) ?_)) (fun hg => sf_call rfl rfl TT.enters_66 rfl (sim_rlp_Same x22 (⟨false, ([120] : List UInt8), ([] : (List Item))⟩ : Item) _ (bT hx25 hg)) ⟨⟨rfl, rfl, rfl⟩, rfl, Imp.refl⟩) (fun _ _ hi => nomatch hi) ?_
    refine RQ.st (some 51) rfl rfl (sf_pickA rfl rfl rfl rfl (fun hb => by rw [hb]; rfl) (fun _ => rfl) ⟨⟨rfl, rfl⟩, ?_⟩)
    refine RQ.st (some 52) rfl rfl (sf_move (v := .d (.val (.bool (((x12 && (x14 == x16)) && (x18 == x20)) && x24)))) rfl rfl ⟨⟨rfl, rfl⟩, ?_⟩)
    refine RQ.gd (v := .d (.agg (cItem (q0.fA)))) (T := [0]) (some 53) rfl rfl (by repeat (first | exact trivial | refine And.intro (fun hg => by first | rfl | exact hg | exact (Bool.and_eq_true_iff.mp hg).1 | exact (Bool.and_eq_true_iff.mp (Bool.and_eq_true_iff.mp hg).1).1) ?_)) (fun hg => sf_ldV (v := .agg [.d (.val (.bool ((q0.fA).fList))), .d (.val (sV ((q0.fA).fS))), .d (.slice (((q0.fA).fL).map eItem))]) rfl TT.tyA_80 rfl rfl ⟨⟨by simp, by simp⟩, rfl⟩ ⟨⟨rfl, rfl, rfl⟩, rfl, (Imp.toD rfl)⟩) (fun _ i hi => by simp only [List.mem_singleton] at hi; subst hi; decide) ?_
    refine RQ.gd (v := .d (.agg (cItem (q0.fB)))) (T := [1]) (some 54) rfl rfl (by repeat (first | exact trivial | refine And.intro (fun hg => by first | rfl | exact hg | exact (Bool.and_eq_true_iff.mp hg).1 | exact (Bool.and_eq_true_iff.mp (Bool.and_eq_true_iff.mp hg).1).1) ?_)) (fun hg => sf_ldV (v := .agg [.d (.val (.bool ((q0.fB).fList))), .d (.val (sV ((q0.fB).fS))), .d (.slice (((q0.fB).fL).map eItem))]) rfl TT.tyA_80 rfl rfl ⟨⟨by simp, by simp⟩, rfl⟩ ⟨⟨rfl, rfl, rfl⟩, rfl, (Imp.toD rfl)⟩) (fun _ i hi => by simp only [List.mem_singleton] at hi; subst hi; decide) ?_
    refine RQ.gd (v := .full (([q0.fA, q0.fB] : List Item).map eItem)) (T := []) (some 55) rfl rfl (by repeat (first | exact trivial | refine And.intro (fun hg => by first | rfl | exact hg | exact (Bool.and_eq_true_iff.mp hg).1 | exact (Bool.and_eq_true_iff.mp (Bool.and_eq_true_iff.mp hg).1).1) ?_)) (fun hg => sf_row (en := eItem) (l := ([q0.fA, q0.fB] : List Item)) rfl TT.rowA_78 lay_Item (by first | rfl | (simp only [List.map_cons, List.map_nil, eItem_eq]; rfl)) rfl (by decide) (by simp [solids, partsP, evP, PV.solid, putS_at, tab, unS, unT, unC, asCond, Value.oneCell']) ⟨⟨rfl, rfl, rfl⟩, rfl, Imp.refl⟩) (fun _ _ hi => nomatch hi) ?_
    obtain ⟨x26, hx27, h⟩ := bO h
    refine RQ.gd (v := .d (.agg (cItem x26))) (T := []) (some 56) rfl rfl (by repeat (first | exact trivial | refine And.intro (fun hg => by first | rfl | exact hg | exact (Bool.and_eq_true_iff.mp hg).1 | exact (Bool.and_eq_true_iff.mp (Bool.and_eq_true_iff.mp hg).1).1) ?_)) (fun hg => sf_call rfl rfl TT.enters_69 rfl (sim_rlp_List ([q0.fA, q0.fB] : List Item) _ (bT hx27 hg)) ⟨⟨rfl, rfl, rfl⟩, rfl, Imp.refl⟩) (fun _ _ hi => nomatch hi) ?_
    refine RQ.gd (v := .d (.agg (cItem (q0.fA)))) (T := [0]) (some 57) rfl rfl (by repeat (first | exact trivial | refine And.intro (fun hg => by first | rfl | exact hg | exact (Bool.and_eq_true_iff.mp hg).1 | exact (Bool.and_eq_true_iff.mp (Bool.and_eq_true_iff.mp hg).1).1) ?_)) (fun hg => sf_ldV (v := .agg [.d (.val (.bool ((q0.fA).fList))), .d (.val (sV ((q0.fA).fS))), .d (.slice (((q0.fA).fL).map eItem))]) rfl TT.tyA_80 rfl rfl ⟨⟨by simp, by simp⟩, rfl⟩ ⟨⟨rfl, rfl, rfl⟩, rfl, (Imp.toD rfl)⟩) (fun _ i hi => by simp only [List.mem_singleton] at hi; subst hi; decide) ?_
    refine RQ.gd (v := .d (.agg (cItem (q0.fB)))) (T := [1]) (some 58) rfl rfl (by repeat (first | exact trivial | refine And.intro (fun hg => by first | rfl | exact hg | exact (Bool.and_eq_true_iff.mp hg).1 | exact (Bool.and_eq_true_iff.mp (Bool.and_eq_true_iff.mp hg).1).1) ?_)) (fun hg => sf_ldV (v := .agg [.d (.val (.bool ((q0.fB).fList))), .d (.val (sV ((q0.fB).fS))), .d (.slice (((q0.fB).fL).map eItem))]) rfl TT.tyA_80 rfl rfl ⟨⟨by simp, by simp⟩, rfl⟩ ⟨⟨rfl, rfl, rfl⟩, rfl, (Imp.toD rfl)⟩) (fun _ i hi => by simp only [List.mem_singleton] at hi; subst hi; decide) ?_
    refine RQ.gd (v := .full (([q0.fA, q0.fB] : List Item).map eItem)) (T := []) (some 59) rfl rfl (by repeat (first | exact trivial | refine And.intro (fun hg => by first | rfl | exact hg | exact (Bool.and_eq_true_iff.mp hg).1 | exact (Bool.and_eq_true_iff.mp (Bool.and_eq_true_iff.mp hg).1).1) ?_)) (fun hg => sf_row (en := eItem) (l := ([q0.fA, q0.fB] : List Item)) rfl TT.rowA_78 lay_Item (by first | rfl | (simp only [List.map_cons, List.map_nil, eItem_eq]; rfl)) rfl (by decide) (by simp [solids, partsP, evP, PV.solid, putS_at, tab, unS, unT, unC, asCond, Value.oneCell']) ⟨⟨rfl, rfl, rfl⟩, rfl, Imp.refl⟩) (fun _ _ hi => nomatch hi) ?_
    refine RQ.gd (v := .agg [.d (.val (.bool true)), .d (.val (sV ([] : List UInt8))), .full (([q0.fA, q0.fB] : List Item).map eItem)]) (T := []) (some 60) rfl rfl (by repeat (first | exact trivial | refine And.intro (fun hg => by first | rfl | exact hg | exact (Bool.and_eq_true_iff.mp hg).1 | exact (Bool.and_eq_true_iff.mp (Bool.and_eq_true_iff.mp hg).1).1) ?_)) (fun hg => sf_bld (v := .agg [.d (.val (.bool true)), .d (.val (sV ([] : List UInt8))), .full (([q0.fA, q0.fB] : List Item).map eItem)]) rfl TT.bldA_80 (build_of rfl (fill_step (cells' := [.d (.val (.bool true)), .d (.val (sV ([] : List UInt8))), .full (([] : (List Item)).map eItem)]) rfl rfl rfl (Nat.le_of_ble_eq_true rfl) rfl (fill_step (cells' := [.d (.val (.bool true)), .d (.val (sV ([] : List UInt8))), .full (([q0.fA, q0.fB] : List Item).map eItem)]) rfl rfl rfl (Nat.le_of_ble_eq_true rfl) rfl fill_nil))) ⟨⟨rfl, rfl, rfl⟩, rfl, Imp.refl⟩) (fun _ _ hi => nomatch hi) ?_
    obtain ⟨x28, hx29, h⟩ := bO h
    refine RQ.gd (v := .d (.val (.bool x28))) (T := []) (some 61) rfl rfl (by repeat (first | exact trivial | refine And.intro (fun hg => by first | rfl | exact hg | exact (Bool.and_eq_true_iff.mp hg).1 | exact (Bool.and_eq_true_iff.mp (Bool.and_eq_true_iff.mp hg).1).1) ?_)) (fun hg => sf_call rfl rfl TT.enters_66 rfl (sim_rlp_Same x26 (⟨true, ([] : List UInt8), ([q0.fA, q0.fB] : List Item)⟩ : Item) _ (bT hx29 hg)) ⟨⟨rfl, rfl, rfl⟩, rfl, Imp.refl⟩) (fun _ _ hi => nomatch hi) ?_
    refine RQ.st (some 62) rfl rfl (sf_pickA rfl rfl rfl rfl (fun hb => by rw [hb]; rfl) (fun _ => rfl) ⟨⟨rfl, rfl⟩, ?_⟩)
    refine RQ.st (some 2) rfl rfl (sf_assign (v := .d (.val (.bool ((((x12 && (x14 == x16)) && (x18 == x20)) && x24) && x28)))) rfl rfl ⟨⟨rfl, rfl⟩, ?_⟩)
    refine RQ.nil (nrm ?_)
    refine QW.ret (Nat.zero_le _) ?_
    obtain rfl := sO h
    exact Ends.one (.inr rfl) rfl (ResIs.tmp rfl) rfl rfl

end Go.Proofs.Ytonlehebfeilmaa.K
