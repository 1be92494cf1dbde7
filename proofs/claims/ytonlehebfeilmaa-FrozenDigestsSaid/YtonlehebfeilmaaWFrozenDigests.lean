/- FrozenDigests: the walk. -/
import Derived.Test.YtonlehebfeilmaaWA31
import Derived.KernelRfl
namespace Go.Proofs.Ytonlehebfeilmaa.K
open Go Go.RowKit
set_option linter.unusedSimpArgs false
set_option linter.unusedVariables false
attribute [local congr] PW_congr XK_congr RK_congr RQ_congr stepF_congr guardF_congr then_congr inBlock_congr Ends_congr appendF_congr CallK_congr CallG_congr EqK_congr EqG_congr SpecK_congr CallX_congr
set_option maxRecDepth 20000 in
set_option maxHeartbeats 4000000 in
theorem FrozenDigests_fun (l m : List (List UInt8)) (hl : l.length ≤ maxLen) (h32 : ∀ s ∈ l, s.length = 32) (hm : m.length ≤ maxLen) (h33 : ∀ s ∈ m, s.length = 32) : Fun Try.prog 9 [.slice ((l).map sumD), .slice ((m).map sumD)] (.val (.bool (true))) := by
  have hfl := flat_all h32
  have hfm := flat_all h33
  refine Fun.of_body Try.func9 rfl (by simp [Try.ntmps9]) ?_
  rw [Try.ntmps9]
  repeat' (first
    | refine PW.seq ?_
    | refine PW.block ?_
    | (refine PW.skip ?_; (try simp only [then_normal, then_exit, then_ret, then_panic, block_normal, block_exit, block_ret, block_panic, Nat.reduceEqDiff, ↓reduceIte]))
    | (refine PW.exit ?_; (try simp only [then_normal, then_exit, then_ret, then_panic, block_normal, block_exit, block_ret, block_panic, Nat.reduceEqDiff, ↓reduceIte]))
    | (refine PW.ret ?_; (try simp only [then_normal, then_exit, then_ret, then_panic, block_normal, block_exit, block_ret, block_panic, Nat.reduceEqDiff, ↓reduceIte]))
    | (show Ends _ _ _ _ _; simp only [Ends, T.res_9, resP, resP1, or_false, or_true, true_or, D.val.injEq, Value.int.injEq, Value.bool.injEq, go_sem, Nat.reduceEqDiff, Nat.reduceBEq, Nat.reduceAdd, Nat.reduceMul, Nat.reduceLT, Nat.reduceLeDiff, Nat.reduceSub, Nat.reducePow, Int.reduceAdd, Int.reduceSub, Int.reduceMul, Int.reduceNeg, Int.reduceLT, Int.reduceLE, Int.reduceGT, Int.reduceGE, Int.reduceBEq, Int.reduceBNe, Int.reduceMod, Int.reduceDiv, Int.reduceToNat, reduceCtorEq, ↓reduceIte, clash2, shaB_len])
    | refine PW.regT (by kernel_rfl) ?_
    | refine PW.regQ (id := 5) mixed (M := _) rfl (by kernel_rfl) ?_
    | refine PW.regQ (id := 7) mixed (M := _) rfl (by kernel_rfl) ?_
    | (refine XK.nil ?_; (try simp only [then_normal, then_exit, then_ret, then_panic, block_normal, block_exit, block_ret, block_panic, Nat.reduceEqDiff, ↓reduceIte]))
    | refine XK.off (by rfl) ?_
    | refine XK.call (f := 46) rfl rfl rfl T.enters_46 rfl (awake31_fun) ?_
    | refine XK.callOn (f := 46) (by rfl) rfl rfl T.enters_46 rfl (awake31_fun) ?_
    | refine XK.call (f := 47) rfl rfl rfl T.enters_47 rfl (frzOf_fun l h32 (by omega)) ?_
    | refine XK.callOn (f := 47) (by rfl) rfl rfl T.enters_47 rfl (frzOf_fun l h32 (by omega)) ?_
    | refine XK.call (f := 47) rfl rfl rfl T.enters_47 rfl (frzOf_fun m h33 (by omega)) ?_
    | refine XK.callOn (f := 47) (by rfl) rfl rfl T.enters_47 rfl (frzOf_fun m h33 (by omega)) ?_
    | refine XK.call (f := 48) rfl rfl rfl T.enters_48 rfl (refText_fun l h32 (by omega)) ?_
    | refine XK.callOn (f := 48) (by rfl) rfl rfl T.enters_48 rfl (refText_fun l h32 (by omega)) ?_
    | refine XK.call (f := 48) rfl rfl rfl T.enters_48 rfl (refText_fun m h33 (by omega)) ?_
    | refine XK.callOn (f := 48) (by rfl) rfl rfl T.enters_48 rfl (refText_fun m h33 (by omega)) ?_
    | refine XK.call (f := 49) rfl rfl rfl T.enters_49 rfl (frzText_fun l h32 (by omega)) ?_
    | refine XK.callOn (f := 49) (by rfl) rfl rfl T.enters_49 rfl (frzText_fun l h32 (by omega)) ?_
    | refine XK.call (f := 49) rfl rfl rfl T.enters_49 rfl (frzText_fun m h33 (by omega)) ?_
    | refine XK.callOn (f := 49) (by rfl) rfl rfl T.enters_49 rfl (frzText_fun m h33 (by omega)) ?_
    | refine XK.call (f := 50) rfl rfl rfl T.enters_50 rfl (frzDigest_fun l h32 (by omega)) ?_
    | refine XK.callOn (f := 50) (by rfl) rfl rfl T.enters_50 rfl (frzDigest_fun l h32 (by omega)) ?_
    | refine XK.call (f := 50) rfl rfl rfl T.enters_50 rfl (frzDigest_fun m h33 (by omega)) ?_
    | refine XK.callOn (f := 50) (by rfl) rfl rfl T.enters_50 rfl (frzDigest_fun m h33 (by omega)) ?_
    | refine XK.call (f := 51) rfl rfl rfl T.enters_51 rfl (refSum_fun l.flatten (by omega)) ?_
    | refine XK.callOn (f := 51) (by rfl) rfl rfl T.enters_51 rfl (refSum_fun l.flatten (by omega)) ?_
    | refine XK.call (f := 52) rfl rfl rfl T.enters_52 rfl (refSame_fun l m h32 (by omega) h33 (by omega)) ?_
    | refine XK.callOn (f := 52) (by rfl) rfl rfl T.enters_52 rfl (refSame_fun l m h32 (by omega) h33 (by omega)) ?_
    | refine XK.call (f := 53) rfl rfl rfl T.enters_53 rfl (Clash_fun [l.flatten, m.flatten] (by simp) (two_len (by omega) (by omega))) ?_
    | refine XK.callOn (f := 53) (by rfl) rfl rfl T.enters_53 rfl (Clash_fun [l.flatten, m.flatten] (by simp) (two_len (by omega) (by omega))) ?_
    | (refine XK.on (by rfl) ?_; simp (disch := first | omega | (simp only [List.length_replicate, List.length_map, List.length_set, List.length_append, List.length_cons, List.length_nil, List.length_range]; omega)) only [go_sem, Nat.reduceEqDiff, Nat.reduceBEq, Nat.reduceAdd, Nat.reduceMul, Nat.reduceLT, Nat.reduceLeDiff, Nat.reduceSub, Nat.reducePow, Int.reduceAdd, Int.reduceSub, Int.reduceMul, Int.reduceNeg, Int.reduceLT, Int.reduceLE, Int.reduceGT, Int.reduceGE, Int.reduceBEq, Int.reduceBNe, Int.reduceMod, Int.reduceDiv, Int.reduceToNat, reduceCtorEq, ↓reduceIte, clash2, shaB_len]; repeat refine ⟨by first | omega | (simp; done) | (simp; omega) | assumption | exact shaB_len _, ?_⟩)
    | (refine XK.part (by rfl) ?_ ?_ <;> (intro hb; simp only [hb]; have hq := hb; (try simp only [decide_eq_true_eq, decide_eq_false_iff_not, beq_iff_eq, beq_eq_false_iff_ne, bne_iff_ne, bne_eq_false_iff_eq, Bool.not_eq_true', Bool.not_eq_false', Int.not_lt, Int.not_le, ge_iff_le, gt_iff_lt, clash2, shaB_len] at hq)))
    | (refine XK.step rfl ?_; simp (disch := first | omega | (simp only [List.length_replicate, List.length_map, List.length_set, List.length_append, List.length_cons, List.length_nil, List.length_range]; omega)) only [go_sem, Nat.reduceEqDiff, Nat.reduceBEq, Nat.reduceAdd, Nat.reduceMul, Nat.reduceLT, Nat.reduceLeDiff, Nat.reduceSub, Nat.reducePow, Int.reduceAdd, Int.reduceSub, Int.reduceMul, Int.reduceNeg, Int.reduceLT, Int.reduceLE, Int.reduceGT, Int.reduceGE, Int.reduceBEq, Int.reduceBNe, Int.reduceMod, Int.reduceDiv, Int.reduceToNat, reduceCtorEq, ↓reduceIte, clash2, shaB_len]; (fail_if_success show False); repeat refine ⟨by first | omega | (simp; done) | (simp; omega) | assumption | exact shaB_len _, ?_⟩)
    | (refine RQ.nil ?_; (try simp only [then_normal, then_exit, then_ret, then_panic, block_normal, block_exit, block_ret, block_panic, Nat.reduceEqDiff, ↓reduceIte]))
    | refine RQ.off (by rfl) ?_
    | refine RQ.call (f := 46) rfl rfl rfl T.enters_46 rfl (awake31_fun) ?_
    | refine RQ.callOn (f := 46) (by rfl) rfl rfl T.enters_46 rfl (awake31_fun) ?_
    | refine RQ.call (f := 47) rfl rfl rfl T.enters_47 rfl (frzOf_fun l h32 (by omega)) ?_
    | refine RQ.callOn (f := 47) (by rfl) rfl rfl T.enters_47 rfl (frzOf_fun l h32 (by omega)) ?_
    | refine RQ.call (f := 47) rfl rfl rfl T.enters_47 rfl (frzOf_fun m h33 (by omega)) ?_
    | refine RQ.callOn (f := 47) (by rfl) rfl rfl T.enters_47 rfl (frzOf_fun m h33 (by omega)) ?_
    | refine RQ.call (f := 48) rfl rfl rfl T.enters_48 rfl (refText_fun l h32 (by omega)) ?_
    | refine RQ.callOn (f := 48) (by rfl) rfl rfl T.enters_48 rfl (refText_fun l h32 (by omega)) ?_
    | refine RQ.call (f := 48) rfl rfl rfl T.enters_48 rfl (refText_fun m h33 (by omega)) ?_
    | refine RQ.callOn (f := 48) (by rfl) rfl rfl T.enters_48 rfl (refText_fun m h33 (by omega)) ?_
    | refine RQ.call (f := 49) rfl rfl rfl T.enters_49 rfl (frzText_fun l h32 (by omega)) ?_
    | refine RQ.callOn (f := 49) (by rfl) rfl rfl T.enters_49 rfl (frzText_fun l h32 (by omega)) ?_
    | refine RQ.call (f := 49) rfl rfl rfl T.enters_49 rfl (frzText_fun m h33 (by omega)) ?_
    | refine RQ.callOn (f := 49) (by rfl) rfl rfl T.enters_49 rfl (frzText_fun m h33 (by omega)) ?_
    | refine RQ.call (f := 50) rfl rfl rfl T.enters_50 rfl (frzDigest_fun l h32 (by omega)) ?_
    | refine RQ.callOn (f := 50) (by rfl) rfl rfl T.enters_50 rfl (frzDigest_fun l h32 (by omega)) ?_
    | refine RQ.call (f := 50) rfl rfl rfl T.enters_50 rfl (frzDigest_fun m h33 (by omega)) ?_
    | refine RQ.callOn (f := 50) (by rfl) rfl rfl T.enters_50 rfl (frzDigest_fun m h33 (by omega)) ?_
    | refine RQ.call (f := 51) rfl rfl rfl T.enters_51 rfl (refSum_fun l.flatten (by omega)) ?_
    | refine RQ.callOn (f := 51) (by rfl) rfl rfl T.enters_51 rfl (refSum_fun l.flatten (by omega)) ?_
    | refine RQ.call (f := 52) rfl rfl rfl T.enters_52 rfl (refSame_fun l m h32 (by omega) h33 (by omega)) ?_
    | refine RQ.callOn (f := 52) (by rfl) rfl rfl T.enters_52 rfl (refSame_fun l m h32 (by omega) h33 (by omega)) ?_
    | refine RQ.call (f := 53) rfl rfl rfl T.enters_53 rfl (Clash_fun [l.flatten, m.flatten] (by simp) (two_len (by omega) (by omega))) ?_
    | refine RQ.callOn (f := 53) (by rfl) rfl rfl T.enters_53 rfl (Clash_fun [l.flatten, m.flatten] (by simp) (two_len (by omega) (by omega))) ?_
    | (refine RQ.on (by rfl) ?_; simp (disch := first | omega | (simp only [List.length_replicate, List.length_map, List.length_set, List.length_append, List.length_cons, List.length_nil, List.length_range]; omega)) only [go_sem, Nat.reduceEqDiff, Nat.reduceBEq, Nat.reduceAdd, Nat.reduceMul, Nat.reduceLT, Nat.reduceLeDiff, Nat.reduceSub, Nat.reducePow, Int.reduceAdd, Int.reduceSub, Int.reduceMul, Int.reduceNeg, Int.reduceLT, Int.reduceLE, Int.reduceGT, Int.reduceGE, Int.reduceBEq, Int.reduceBNe, Int.reduceMod, Int.reduceDiv, Int.reduceToNat, reduceCtorEq, ↓reduceIte, clash2, shaB_len]; repeat refine ⟨by first | omega | (simp; done) | (simp; omega) | assumption | exact shaB_len _, ?_⟩)
    | (refine RQ.part (by rfl) ?_ ?_ <;> (intro hb; simp only [hb]; have hq := hb; (try simp only [decide_eq_true_eq, decide_eq_false_iff_not, beq_iff_eq, beq_eq_false_iff_ne, bne_iff_ne, bne_eq_false_iff_eq, Bool.not_eq_true', Bool.not_eq_false', Int.not_lt, Int.not_le, ge_iff_le, gt_iff_lt, clash2, shaB_len] at hq)))
    | (refine RQ.step rfl ?_; simp (disch := first | omega | (simp only [List.length_replicate, List.length_map, List.length_set, List.length_append, List.length_cons, List.length_nil, List.length_range]; omega)) only [go_sem, Nat.reduceEqDiff, Nat.reduceBEq, Nat.reduceAdd, Nat.reduceMul, Nat.reduceLT, Nat.reduceLeDiff, Nat.reduceSub, Nat.reducePow, Int.reduceAdd, Int.reduceSub, Int.reduceMul, Int.reduceNeg, Int.reduceLT, Int.reduceLE, Int.reduceGT, Int.reduceGE, Int.reduceBEq, Int.reduceBNe, Int.reduceMod, Int.reduceDiv, Int.reduceToNat, reduceCtorEq, ↓reduceIte, clash2, shaB_len]; (fail_if_success show False); repeat refine ⟨by first | omega | (simp; done) | (simp; omega) | assumption | exact shaB_len _, ?_⟩)
    | refine PW.cond (b := true) rfl (fun _ => ?_) (fun h => nomatch h)
    | refine PW.cond (b := false) rfl (fun h => nomatch h) (fun _ => ?_)
    | (refine PW.cond (by first | rfl | (simp (disch := first | omega | (simp only [List.length_replicate, List.length_map, List.length_set, List.length_append, List.length_cons, List.length_nil, List.length_range]; omega)) only [go_sem, Nat.reduceEqDiff, Nat.reduceBEq, Nat.reduceAdd, Nat.reduceMul, Nat.reduceLT, Nat.reduceLeDiff, Nat.reduceSub, Nat.reducePow, Int.reduceAdd, Int.reduceSub, Int.reduceMul, Int.reduceNeg, Int.reduceLT, Int.reduceLE, Int.reduceGT, Int.reduceGE, Int.reduceBEq, Int.reduceBNe, Int.reduceMod, Int.reduceDiv, Int.reduceToNat, reduceCtorEq, ↓reduceIte, clash2, shaB_len]; done) | (simp (disch := first | omega | (simp only [List.length_replicate, List.length_map, List.length_set, List.length_append, List.length_cons, List.length_nil, List.length_range]; omega)) only [go_sem, Nat.reduceEqDiff, Nat.reduceBEq, Nat.reduceAdd, Nat.reduceMul, Nat.reduceLT, Nat.reduceLeDiff, Nat.reduceSub, Nat.reducePow, Int.reduceAdd, Int.reduceSub, Int.reduceMul, Int.reduceNeg, Int.reduceLT, Int.reduceLE, Int.reduceGT, Int.reduceGE, Int.reduceBEq, Int.reduceBNe, Int.reduceMod, Int.reduceDiv, Int.reduceToNat, reduceCtorEq, ↓reduceIte, clash2, shaB_len]; rfl)) ?_ ?_ <;> (intro hb; (try simp only [hb]); have hq := hb; (try simp only [decide_eq_true_eq, decide_eq_false_iff_not, beq_iff_eq, beq_eq_false_iff_ne, bne_iff_ne, bne_eq_false_iff_eq, Bool.not_eq_true', Bool.not_eq_false', Int.not_lt, Int.not_le, ge_iff_le, gt_iff_lt, clash2, shaB_len] at hq)))
    | (refine EqK.mk (EqRun.bytes T.arrB_64_32 _ _ (by first | omega | (simp; done) | (simp; omega) | assumption | exact shaB_len _) (by first | omega | (simp; done) | (simp; omega) | assumption | exact shaB_len _)) ?_; (try simp (disch := first | omega | (simp only [List.length_replicate, List.length_map, List.length_set, List.length_append, List.length_cons, List.length_nil, List.length_range]; omega)) only [go_sem, Nat.reduceEqDiff, Nat.reduceBEq, Nat.reduceAdd, Nat.reduceMul, Nat.reduceLT, Nat.reduceLeDiff, Nat.reduceSub, Nat.reducePow, Int.reduceAdd, Int.reduceSub, Int.reduceMul, Int.reduceNeg, Int.reduceLT, Int.reduceLE, Int.reduceGT, Int.reduceGE, Int.reduceBEq, Int.reduceBNe, Int.reduceMod, Int.reduceDiv, Int.reduceToNat, reduceCtorEq, ↓reduceIte, clash2, shaB_len]); repeat refine ⟨by first | omega | (simp; done) | (simp; omega) | assumption | exact shaB_len _, ?_⟩))
  all_goals (first | (((have h := clash2 l.flatten m.flatten); (simp only [List.length_cons, List.length_nil, Nat.reduceAdd, Nat.zero_add] at h); rw [h]; (simp [*]; done))) | skip)

end Go.Proofs.Ytonlehebfeilmaa.K
