/- NibPaths: the walk. -/
import Derived.Test.YtonlehebfeilmaaWNib
import Derived.KernelRfl
namespace Go.Proofs.Ytonlehebfeilmaa.K
open Go Go.RowKit
set_option linter.unusedSimpArgs false
set_option linter.unusedVariables false
attribute [local congr] PW_congr XK_congr RK_congr RQ_congr stepF_congr guardF_congr then_congr inBlock_congr Ends_congr appendF_congr CallK_congr CallG_congr EqK_congr EqG_congr SpecK_congr CallX_congr
set_option maxHeartbeats 4000000 in
theorem NibPaths_fun (a b : List UInt8) (ha : a.length ≤ maxLen) (hb0 : b.length ≤ maxLen) : Fun Try.prog 8 [.slice ((a).map byteD), .slice ((b).map byteD)] (.val (.bool (true))) := by
  have hT := textL_len a
  refine Fun.of_body Try.func8 rfl (by simp [Try.ntmps8]) ?_
  rw [Try.ntmps8]
  repeat' (first
    | refine PW.seq ?_
    | refine PW.block ?_
    | (refine PW.skip ?_; (try simp only [then_normal, then_exit, then_ret, then_panic, block_normal, block_exit, block_ret, block_panic, Nat.reduceEqDiff, ↓reduceIte]))
    | (refine PW.exit ?_; (try simp only [then_normal, then_exit, then_ret, then_panic, block_normal, block_exit, block_ret, block_panic, Nat.reduceEqDiff, ↓reduceIte]))
    | (refine PW.ret ?_; (try simp only [then_normal, then_exit, then_ret, then_panic, block_normal, block_exit, block_ret, block_panic, Nat.reduceEqDiff, ↓reduceIte]))
    | (show Ends _ _ _ _ _; simp only [Ends, T.res_8, resP, resP1, or_false, or_true, true_or, D.val.injEq, Value.int.injEq, Value.bool.injEq, go_sem, Nat.reduceEqDiff, Nat.reduceBEq, Nat.reduceAdd, Nat.reduceMul, Nat.reduceLT, Nat.reduceLeDiff, Nat.reduceSub, Nat.reducePow, Int.reduceAdd, Int.reduceSub, Int.reduceMul, Int.reduceNeg, Int.reduceLT, Int.reduceLE, Int.reduceGT, Int.reduceGE, Int.reduceBEq, Int.reduceBNe, Int.reduceMod, Int.reduceDiv, Int.reduceToNat, reduceCtorEq, ↓reduceIte, less_cmp])
    | refine PW.regT (by kernel_rfl) ?_
    | refine PW.regQ (id := 9) mixed (M := _) rfl (by kernel_rfl) ?_
    | refine PW.regQ (id := 12) mixed (M := _) rfl (by kernel_rfl) ?_
    | (refine XK.nil ?_; (try simp only [then_normal, then_exit, then_ret, then_panic, block_normal, block_exit, block_ret, block_panic, Nat.reduceEqDiff, ↓reduceIte]))
    | refine XK.off (by rfl) ?_
    | refine XK.call (f := 33) rfl rfl rfl T.enters_33 rfl (awake02_fun) ?_
    | refine XK.callOn (f := 33) (by rfl) rfl rfl T.enters_33 rfl (awake02_fun) ?_
    | refine XK.call (f := 41) rfl rfl rfl T.enters_41 rfl (Text_fun a (by omega)) ?_
    | refine XK.callOn (f := 41) (by rfl) rfl rfl T.enters_41 rfl (Text_fun a (by omega)) ?_
    | refine XK.call (f := 42) rfl rfl rfl T.enters_42 rfl (Join_fun [a, b] (by simp) (by simp; omega)) ?_
    | refine XK.callOn (f := 42) (by rfl) rfl rfl T.enters_42 rfl (Join_fun [a, b] (by simp) (by simp; omega)) ?_
    | refine XK.call (f := 43) rfl rfl rfl T.enters_43 rfl (Common_fun a b (by omega)) ?_
    | refine XK.callOn (f := 43) (by rfl) rfl rfl T.enters_43 rfl (Common_fun a b (by omega)) ?_
    | refine XK.call (f := 44) rfl rfl rfl T.enters_44 rfl (RefCommon_fun a b (by omega) (by omega)) ?_
    | refine XK.callOn (f := 44) (by rfl) rfl rfl T.enters_44 rfl (RefCommon_fun a b (by omega) (by omega)) ?_
    | refine XK.call (f := 45) rfl rfl rfl T.enters_45 rfl (Less_fun a b (by omega) (by omega)) ?_
    | refine XK.callOn (f := 45) (by rfl) rfl rfl T.enters_45 rfl (Less_fun a b (by omega) (by omega)) ?_
    | (refine XK.on (by rfl) ?_; simp (disch := first | omega | (simp only [List.length_replicate, List.length_map]; omega)) only [go_sem, Nat.reduceEqDiff, Nat.reduceBEq, Nat.reduceAdd, Nat.reduceMul, Nat.reduceLT, Nat.reduceLeDiff, Nat.reduceSub, Nat.reducePow, Int.reduceAdd, Int.reduceSub, Int.reduceMul, Int.reduceNeg, Int.reduceLT, Int.reduceLE, Int.reduceGT, Int.reduceGE, Int.reduceBEq, Int.reduceBNe, Int.reduceMod, Int.reduceDiv, Int.reduceToNat, reduceCtorEq, ↓reduceIte, less_cmp]; repeat refine ⟨by first | omega | (simp; done) | (simp; omega) | (intro e; have e' := congrArg List.length e; simp only [List.length_map, List.length_nil] at e'; omega), ?_⟩)
    | (refine XK.part (by rfl) ?_ ?_ <;> (intro hb; simp only [hb]; have hq := hb; (try simp only [decide_eq_true_eq, decide_eq_false_iff_not, beq_iff_eq, beq_eq_false_iff_ne, bne_iff_ne, bne_eq_false_iff_eq, Bool.not_eq_true', Bool.not_eq_false', Int.not_lt, Int.not_le, ge_iff_le, gt_iff_lt, less_cmp] at hq)))
    | (refine XK.step rfl ?_; simp (disch := first | omega | (simp only [List.length_replicate, List.length_map]; omega)) only [go_sem, Nat.reduceEqDiff, Nat.reduceBEq, Nat.reduceAdd, Nat.reduceMul, Nat.reduceLT, Nat.reduceLeDiff, Nat.reduceSub, Nat.reducePow, Int.reduceAdd, Int.reduceSub, Int.reduceMul, Int.reduceNeg, Int.reduceLT, Int.reduceLE, Int.reduceGT, Int.reduceGE, Int.reduceBEq, Int.reduceBNe, Int.reduceMod, Int.reduceDiv, Int.reduceToNat, reduceCtorEq, ↓reduceIte, less_cmp]; (fail_if_success show False); repeat refine ⟨by first | omega | (simp; done) | (simp; omega) | (intro e; have e' := congrArg List.length e; simp only [List.length_map, List.length_nil] at e'; omega), ?_⟩)
    | (refine RQ.nil ?_; (try simp only [then_normal, then_exit, then_ret, then_panic, block_normal, block_exit, block_ret, block_panic, Nat.reduceEqDiff, ↓reduceIte]))
    | refine RQ.off (by rfl) ?_
    | refine RQ.call (f := 33) rfl rfl rfl T.enters_33 rfl (awake02_fun) ?_
    | refine RQ.callOn (f := 33) (by rfl) rfl rfl T.enters_33 rfl (awake02_fun) ?_
    | refine RQ.call (f := 41) rfl rfl rfl T.enters_41 rfl (Text_fun a (by omega)) ?_
    | refine RQ.callOn (f := 41) (by rfl) rfl rfl T.enters_41 rfl (Text_fun a (by omega)) ?_
    | refine RQ.call (f := 42) rfl rfl rfl T.enters_42 rfl (Join_fun [a, b] (by simp) (by simp; omega)) ?_
    | refine RQ.callOn (f := 42) (by rfl) rfl rfl T.enters_42 rfl (Join_fun [a, b] (by simp) (by simp; omega)) ?_
    | refine RQ.call (f := 43) rfl rfl rfl T.enters_43 rfl (Common_fun a b (by omega)) ?_
    | refine RQ.callOn (f := 43) (by rfl) rfl rfl T.enters_43 rfl (Common_fun a b (by omega)) ?_
    | refine RQ.call (f := 44) rfl rfl rfl T.enters_44 rfl (RefCommon_fun a b (by omega) (by omega)) ?_
    | refine RQ.callOn (f := 44) (by rfl) rfl rfl T.enters_44 rfl (RefCommon_fun a b (by omega) (by omega)) ?_
    | refine RQ.call (f := 45) rfl rfl rfl T.enters_45 rfl (Less_fun a b (by omega) (by omega)) ?_
    | refine RQ.callOn (f := 45) (by rfl) rfl rfl T.enters_45 rfl (Less_fun a b (by omega) (by omega)) ?_
    | (refine RQ.on (by rfl) ?_; simp (disch := first | omega | (simp only [List.length_replicate, List.length_map]; omega)) only [go_sem, Nat.reduceEqDiff, Nat.reduceBEq, Nat.reduceAdd, Nat.reduceMul, Nat.reduceLT, Nat.reduceLeDiff, Nat.reduceSub, Nat.reducePow, Int.reduceAdd, Int.reduceSub, Int.reduceMul, Int.reduceNeg, Int.reduceLT, Int.reduceLE, Int.reduceGT, Int.reduceGE, Int.reduceBEq, Int.reduceBNe, Int.reduceMod, Int.reduceDiv, Int.reduceToNat, reduceCtorEq, ↓reduceIte, less_cmp]; repeat refine ⟨by first | omega | (simp; done) | (simp; omega) | (intro e; have e' := congrArg List.length e; simp only [List.length_map, List.length_nil] at e'; omega), ?_⟩)
    | (refine RQ.part (by rfl) ?_ ?_ <;> (intro hb; simp only [hb]; have hq := hb; (try simp only [decide_eq_true_eq, decide_eq_false_iff_not, beq_iff_eq, beq_eq_false_iff_ne, bne_iff_ne, bne_eq_false_iff_eq, Bool.not_eq_true', Bool.not_eq_false', Int.not_lt, Int.not_le, ge_iff_le, gt_iff_lt, less_cmp] at hq)))
    | (refine RQ.step rfl ?_; simp (disch := first | omega | (simp only [List.length_replicate, List.length_map]; omega)) only [go_sem, Nat.reduceEqDiff, Nat.reduceBEq, Nat.reduceAdd, Nat.reduceMul, Nat.reduceLT, Nat.reduceLeDiff, Nat.reduceSub, Nat.reducePow, Int.reduceAdd, Int.reduceSub, Int.reduceMul, Int.reduceNeg, Int.reduceLT, Int.reduceLE, Int.reduceGT, Int.reduceGE, Int.reduceBEq, Int.reduceBNe, Int.reduceMod, Int.reduceDiv, Int.reduceToNat, reduceCtorEq, ↓reduceIte, less_cmp]; (fail_if_success show False); repeat refine ⟨by first | omega | (simp; done) | (simp; omega) | (intro e; have e' := congrArg List.length e; simp only [List.length_map, List.length_nil] at e'; omega), ?_⟩)
    | refine PW.cond (b := true) rfl (fun _ => ?_) (fun h => nomatch h)
    | refine PW.cond (b := false) rfl (fun h => nomatch h) (fun _ => ?_)
    | (refine PW.cond (by first | rfl | (simp (disch := first | omega | (simp only [List.length_replicate, List.length_map]; omega)) only [go_sem, Nat.reduceEqDiff, Nat.reduceBEq, Nat.reduceAdd, Nat.reduceMul, Nat.reduceLT, Nat.reduceLeDiff, Nat.reduceSub, Nat.reducePow, Int.reduceAdd, Int.reduceSub, Int.reduceMul, Int.reduceNeg, Int.reduceLT, Int.reduceLE, Int.reduceGT, Int.reduceGE, Int.reduceBEq, Int.reduceBNe, Int.reduceMod, Int.reduceDiv, Int.reduceToNat, reduceCtorEq, ↓reduceIte, less_cmp]; done) | (simp (disch := first | omega | (simp only [List.length_replicate, List.length_map]; omega)) only [go_sem, Nat.reduceEqDiff, Nat.reduceBEq, Nat.reduceAdd, Nat.reduceMul, Nat.reduceLT, Nat.reduceLeDiff, Nat.reduceSub, Nat.reducePow, Int.reduceAdd, Int.reduceSub, Int.reduceMul, Int.reduceNeg, Int.reduceLT, Int.reduceLE, Int.reduceGT, Int.reduceGE, Int.reduceBEq, Int.reduceBNe, Int.reduceMod, Int.reduceDiv, Int.reduceToNat, reduceCtorEq, ↓reduceIte, less_cmp]; rfl)) ?_ ?_ <;> (intro hb; (try simp only [hb]); have hq := hb; (try simp only [decide_eq_true_eq, decide_eq_false_iff_not, beq_iff_eq, beq_eq_false_iff_ne, bne_iff_ne, bne_eq_false_iff_eq, Bool.not_eq_true', Bool.not_eq_false', Int.not_lt, Int.not_le, ge_iff_le, gt_iff_lt, less_cmp] at hq)))
    | (show PW _ _ (Code.loop (Code.seq (Code.seq (Code.region 5 _ _) _) _)) _ _; refine PW.loopN (fun k s => ∃ (i : Nat), k + i = a.length ∧ a.length ≤ 100 ∧ b.length ≤ 100 ∧ At s [(0, .d (.slice ((a).map byteD))), (1, .d (.slice ((b).map byteD))), (5, .d (.val (.string ⟨(textL a).toArray⟩))), (6, .d (.val (.int .i64 ((i : Nat)))))] []) a.length (by refine ⟨0, ?_⟩; refine ⟨by first | omega | exact f0 | (simp; done) | (simp; omega) | (push_cast; exact f0) | (rw [f0]; simp; done), ?_⟩; refine ⟨by first | omega | exact f1 | (simp; done) | (simp; omega) | (push_cast; exact f1) | (rw [f1]; simp; done), ?_⟩; refine ⟨by first | omega | exact f2 | (simp; done) | (simp; omega) | (push_cast; exact f2) | (rw [f2]; simp; done), ?_⟩; rw [at_mk]; simp (disch := first | omega | (simp only [List.length_replicate, List.length_map]; omega)) only [go_sem, Nat.reduceEqDiff, Nat.reduceBEq, Nat.reduceAdd, Nat.reduceMul, Nat.reduceLT, Nat.reduceLeDiff, Nat.reduceSub, Nat.reducePow, Int.reduceAdd, Int.reduceSub, Int.reduceMul, Int.reduceNeg, Int.reduceLT, Int.reduceLE, Int.reduceGT, Int.reduceGE, Int.reduceBEq, Int.reduceBNe, Int.reduceMod, Int.reduceDiv, Int.reduceToNat, reduceCtorEq, ↓reduceIte, less_cmp, List.length_append, Int.natCast_zero, Int.natCast_add, Int.natCast_one, Int.cast_ofNat_Int, List.take_zero]; (try (first | done | with_reducible rfl | omega | (simp [byteD]; done) | rfl)); done) ?_; rintro k s ⟨i, f0, f1, f2, hs⟩; obtain ⟨S, H, nx, rfl⟩ := hs.get; clear hs; simp only [puts, puths])
    | (show ∃ j, j < _ ∧ _; refine ⟨k - 1, by omega, i + 1, ?_⟩; refine ⟨by first | omega | exact f0 | (simp; done) | (simp; omega) | (push_cast; exact f0) | (rw [f0]; simp; done), ?_⟩; refine ⟨by first | omega | exact f1 | (simp; done) | (simp; omega) | (push_cast; exact f1) | (rw [f1]; simp; done), ?_⟩; refine ⟨by first | omega | exact f2 | (simp; done) | (simp; omega) | (push_cast; exact f2) | (rw [f2]; simp; done), ?_⟩; rw [at_mk]; simp (disch := first | omega | (simp only [List.length_replicate, List.length_map]; omega)) only [go_sem, Nat.reduceEqDiff, Nat.reduceBEq, Nat.reduceAdd, Nat.reduceMul, Nat.reduceLT, Nat.reduceLeDiff, Nat.reduceSub, Nat.reducePow, Int.reduceAdd, Int.reduceSub, Int.reduceMul, Int.reduceNeg, Int.reduceLT, Int.reduceLE, Int.reduceGT, Int.reduceGE, Int.reduceBEq, Int.reduceBNe, Int.reduceMod, Int.reduceDiv, Int.reduceToNat, reduceCtorEq, ↓reduceIte, less_cmp, List.length_append, Int.natCast_zero, Int.natCast_add, Int.natCast_one, Int.cast_ofNat_Int, List.take_zero]; (try (first | done | with_reducible rfl | omega | (simp [byteD]; done) | rfl)); done))
  all_goals (first | (first | omega | exact absurd (txt_dig (by omega) (by omega)) hq | exact absurd (txt_q (by omega) (by omega)) hq | (apply hq; simp; done)) | skip)

end Go.Proofs.Ytonlehebfeilmaa.K
