/- NibUnpacks: the walk. -/
import Derived.Test.YtonlehebfeilmaaWNib
import Derived.KernelRfl
namespace Go.Proofs.Ytonlehebfeilmaa.K
open Go Go.RowKit
set_option linter.unusedSimpArgs false
set_option linter.unusedVariables false
attribute [local congr] PW_congr XK_congr RK_congr RQ_congr stepF_congr guardF_congr then_congr inBlock_congr Ends_congr appendF_congr CallK_congr CallG_congr EqK_congr EqG_congr SpecK_congr CallX_congr
set_option maxHeartbeats 4000000 in
theorem NibUnpacks_nil  : Fun Try.prog 6 [.val (.string ⟨(([] : List UInt8)).toArray⟩)] (.val (.bool (true))) := by
  refine Fun.of_body Try.func6 rfl (by simp [Try.ntmps6]) ?_
  rw [Try.ntmps6]
  repeat' (first
    | refine PW.seq ?_
    | refine PW.block ?_
    | (refine PW.skip ?_; (try simp only [then_normal, then_exit, then_ret, then_panic, block_normal, block_exit, block_ret, block_panic, Nat.reduceEqDiff, ↓reduceIte]))
    | (refine PW.exit ?_; (try simp only [then_normal, then_exit, then_ret, then_panic, block_normal, block_exit, block_ret, block_panic, Nat.reduceEqDiff, ↓reduceIte]))
    | (refine PW.ret ?_; (try simp only [then_normal, then_exit, then_ret, then_panic, block_normal, block_exit, block_ret, block_panic, Nat.reduceEqDiff, ↓reduceIte]))
    | (show Ends _ _ _ _ _; simp only [Ends, T.res_6, resP, resP1, or_false, or_true, true_or, D.val.injEq, Value.int.injEq, Value.bool.injEq, go_sem, Nat.reduceEqDiff, Nat.reduceBEq, Nat.reduceAdd, Nat.reduceMul, Nat.reduceLT, Nat.reduceLeDiff, Nat.reduceSub, Nat.reducePow, Int.reduceAdd, Int.reduceSub, Int.reduceMul, Int.reduceNeg, Int.reduceLT, Int.reduceLE, Int.reduceGT, Int.reduceGE, Int.reduceBEq, Int.reduceBNe, Int.reduceMod, Int.reduceDiv, Int.reduceToNat, reduceCtorEq, ↓reduceIte, unpP_nil, unpL_nil, unpE_nil])
    | refine PW.regT (by kernel_rfl) ?_
    | (refine XK.nil ?_; (try simp only [then_normal, then_exit, then_ret, then_panic, block_normal, block_exit, block_ret, block_panic, Nat.reduceEqDiff, ↓reduceIte]))
    | refine XK.off (by rfl) ?_
    | refine XK.call (f := 33) rfl rfl rfl T.enters_33 rfl (awake02_fun) ?_
    | refine XK.callOn (f := 33) (by rfl) rfl rfl T.enters_33 rfl (awake02_fun) ?_
    | refine XK.call (f := 36) rfl rfl rfl T.enters_36 rfl (Unpack_fun _ (by first | omega | (simp; omega) | simp)) ?_
    | refine XK.callOn (f := 36) (by rfl) rfl rfl T.enters_36 rfl (Unpack_fun _ (by first | omega | (simp; omega) | simp)) ?_
    | refine XK.call (f := 35) rfl rfl rfl T.enters_35 rfl (RefRight_fun _ (by omega)) ?_
    | refine XK.callOn (f := 35) (by rfl) rfl rfl T.enters_35 rfl (RefRight_fun _ (by omega)) ?_
    | refine XK.call (f := 37) rfl rfl rfl T.enters_37 rfl (RefPack_fun _ _ (by omega) hR) ?_
    | refine XK.callOn (f := 37) (by rfl) rfl rfl T.enters_37 rfl (RefPack_fun _ _ (by omega) hR) ?_
    | (refine XK.on (by rfl) ?_; simp (disch := first | omega | (simp only [List.length_replicate, List.length_map]; omega)) only [go_sem, Nat.reduceEqDiff, Nat.reduceBEq, Nat.reduceAdd, Nat.reduceMul, Nat.reduceLT, Nat.reduceLeDiff, Nat.reduceSub, Nat.reducePow, Int.reduceAdd, Int.reduceSub, Int.reduceMul, Int.reduceNeg, Int.reduceLT, Int.reduceLE, Int.reduceGT, Int.reduceGE, Int.reduceBEq, Int.reduceBNe, Int.reduceMod, Int.reduceDiv, Int.reduceToNat, reduceCtorEq, ↓reduceIte, unpP_nil, unpL_nil, unpE_nil]; repeat refine ⟨by first | omega | (simp; done) | (simp; omega) | (intro e; have e' := congrArg List.length e; simp only [List.length_map, List.length_nil] at e'; omega), ?_⟩)
    | (refine XK.part (by rfl) ?_ ?_ <;> (intro hb; simp only [hb]; have hq := hb; (try simp only [decide_eq_true_eq, decide_eq_false_iff_not, beq_iff_eq, beq_eq_false_iff_ne, bne_iff_ne, bne_eq_false_iff_eq, Bool.not_eq_true', Bool.not_eq_false', Int.not_lt, Int.not_le, ge_iff_le, gt_iff_lt, unpP_nil, unpL_nil, unpE_nil] at hq)))
    | (refine XK.step rfl ?_; simp (disch := first | omega | (simp only [List.length_replicate, List.length_map]; omega)) only [go_sem, Nat.reduceEqDiff, Nat.reduceBEq, Nat.reduceAdd, Nat.reduceMul, Nat.reduceLT, Nat.reduceLeDiff, Nat.reduceSub, Nat.reducePow, Int.reduceAdd, Int.reduceSub, Int.reduceMul, Int.reduceNeg, Int.reduceLT, Int.reduceLE, Int.reduceGT, Int.reduceGE, Int.reduceBEq, Int.reduceBNe, Int.reduceMod, Int.reduceDiv, Int.reduceToNat, reduceCtorEq, ↓reduceIte, unpP_nil, unpL_nil, unpE_nil]; (fail_if_success show False); repeat refine ⟨by first | omega | (simp; done) | (simp; omega) | (intro e; have e' := congrArg List.length e; simp only [List.length_map, List.length_nil] at e'; omega), ?_⟩)
    | refine PW.cond (b := true) rfl (fun _ => ?_) (fun h => nomatch h)
    | refine PW.cond (b := false) rfl (fun h => nomatch h) (fun _ => ?_)
    | (refine PW.cond (by first | rfl | (simp (disch := first | omega | (simp only [List.length_replicate, List.length_map]; omega)) only [go_sem, Nat.reduceEqDiff, Nat.reduceBEq, Nat.reduceAdd, Nat.reduceMul, Nat.reduceLT, Nat.reduceLeDiff, Nat.reduceSub, Nat.reducePow, Int.reduceAdd, Int.reduceSub, Int.reduceMul, Int.reduceNeg, Int.reduceLT, Int.reduceLE, Int.reduceGT, Int.reduceGE, Int.reduceBEq, Int.reduceBNe, Int.reduceMod, Int.reduceDiv, Int.reduceToNat, reduceCtorEq, ↓reduceIte, unpP_nil, unpL_nil, unpE_nil]; done) | (simp (disch := first | omega | (simp only [List.length_replicate, List.length_map]; omega)) only [go_sem, Nat.reduceEqDiff, Nat.reduceBEq, Nat.reduceAdd, Nat.reduceMul, Nat.reduceLT, Nat.reduceLeDiff, Nat.reduceSub, Nat.reducePow, Int.reduceAdd, Int.reduceSub, Int.reduceMul, Int.reduceNeg, Int.reduceLT, Int.reduceLE, Int.reduceGT, Int.reduceGE, Int.reduceBEq, Int.reduceBNe, Int.reduceMod, Int.reduceDiv, Int.reduceToNat, reduceCtorEq, ↓reduceIte, unpP_nil, unpL_nil, unpE_nil]; rfl)) ?_ ?_ <;> (intro hb; (try simp only [hb]); have hq := hb; (try simp only [decide_eq_true_eq, decide_eq_false_iff_not, beq_iff_eq, beq_eq_false_iff_ne, bne_iff_ne, bne_eq_false_iff_eq, Bool.not_eq_true', Bool.not_eq_false', Int.not_lt, Int.not_le, ge_iff_le, gt_iff_lt, unpP_nil, unpL_nil, unpE_nil] at hq))))

set_option maxHeartbeats 4000000 in
theorem NibUnpacks_bad (c : UInt8) (r : List UInt8) (hl : r.length + 1 ≤ maxLen) (hbad : unpBad c (r.length + 1) = true) : Fun Try.prog 6 [.val (.string ⟨(c :: r).toArray⟩)] (.val (.bool (true))) := by
  obtain ⟨hP, hL, hE⟩ := unp_is_bad (r := r) hbad
  have e1 := div16_nat c
  have e2 := mod16_nat c
  have e3 := c.toNat_lt
  have hB := (unpBad_iff _ _).1 hbad
  refine Fun.of_body Try.func6 rfl (by simp [Try.ntmps6]) ?_
  rw [Try.ntmps6]
  repeat' (first
    | refine PW.seq ?_
    | refine PW.block ?_
    | (refine PW.skip ?_; (try simp only [then_normal, then_exit, then_ret, then_panic, block_normal, block_exit, block_ret, block_panic, Nat.reduceEqDiff, ↓reduceIte]))
    | (refine PW.exit ?_; (try simp only [then_normal, then_exit, then_ret, then_panic, block_normal, block_exit, block_ret, block_panic, Nat.reduceEqDiff, ↓reduceIte]))
    | (refine PW.ret ?_; (try simp only [then_normal, then_exit, then_ret, then_panic, block_normal, block_exit, block_ret, block_panic, Nat.reduceEqDiff, ↓reduceIte]))
    | (show Ends _ _ _ _ _; simp only [Ends, T.res_6, resP, resP1, or_false, or_true, true_or, D.val.injEq, Value.int.injEq, Value.bool.injEq, go_sem, Nat.reduceEqDiff, Nat.reduceBEq, Nat.reduceAdd, Nat.reduceMul, Nat.reduceLT, Nat.reduceLeDiff, Nat.reduceSub, Nat.reducePow, Int.reduceAdd, Int.reduceSub, Int.reduceMul, Int.reduceNeg, Int.reduceLT, Int.reduceLE, Int.reduceGT, Int.reduceGE, Int.reduceBEq, Int.reduceBNe, Int.reduceMod, Int.reduceDiv, Int.reduceToNat, reduceCtorEq, ↓reduceIte, cons_beq_nil, hP, hL, hE])
    | refine PW.regT (by kernel_rfl) ?_
    | (refine XK.nil ?_; (try simp only [then_normal, then_exit, then_ret, then_panic, block_normal, block_exit, block_ret, block_panic, Nat.reduceEqDiff, ↓reduceIte]))
    | refine XK.off (by rfl) ?_
    | refine XK.call (f := 33) rfl rfl rfl T.enters_33 rfl (awake02_fun) ?_
    | refine XK.callOn (f := 33) (by rfl) rfl rfl T.enters_33 rfl (awake02_fun) ?_
    | refine XK.call (f := 36) rfl rfl rfl T.enters_36 rfl (Unpack_fun _ (by first | omega | (simp; omega) | simp)) ?_
    | refine XK.callOn (f := 36) (by rfl) rfl rfl T.enters_36 rfl (Unpack_fun _ (by first | omega | (simp; omega) | simp)) ?_
    | refine XK.call (f := 35) rfl rfl rfl T.enters_35 rfl (RefRight_fun _ (by omega)) ?_
    | refine XK.callOn (f := 35) (by rfl) rfl rfl T.enters_35 rfl (RefRight_fun _ (by omega)) ?_
    | refine XK.call (f := 37) rfl rfl rfl T.enters_37 rfl (RefPack_fun _ _ (by omega) hR) ?_
    | refine XK.callOn (f := 37) (by rfl) rfl rfl T.enters_37 rfl (RefPack_fun _ _ (by omega) hR) ?_
    | (refine XK.on (by rfl) ?_; simp (disch := first | omega | (simp only [List.length_replicate, List.length_map]; omega)) only [go_sem, Nat.reduceEqDiff, Nat.reduceBEq, Nat.reduceAdd, Nat.reduceMul, Nat.reduceLT, Nat.reduceLeDiff, Nat.reduceSub, Nat.reducePow, Int.reduceAdd, Int.reduceSub, Int.reduceMul, Int.reduceNeg, Int.reduceLT, Int.reduceLE, Int.reduceGT, Int.reduceGE, Int.reduceBEq, Int.reduceBNe, Int.reduceMod, Int.reduceDiv, Int.reduceToNat, reduceCtorEq, ↓reduceIte, cons_beq_nil, hP, hL, hE]; repeat refine ⟨by first | omega | (simp; done) | (simp; omega) | (intro e; have e' := congrArg List.length e; simp only [List.length_map, List.length_nil] at e'; omega), ?_⟩)
    | (refine XK.part (by rfl) ?_ ?_ <;> (intro hb; simp only [hb]; have hq := hb; (try simp only [decide_eq_true_eq, decide_eq_false_iff_not, beq_iff_eq, beq_eq_false_iff_ne, bne_iff_ne, bne_eq_false_iff_eq, Bool.not_eq_true', Bool.not_eq_false', Int.not_lt, Int.not_le, ge_iff_le, gt_iff_lt, cons_beq_nil, hP, hL, hE] at hq)))
    | (refine XK.step rfl ?_; simp (disch := first | omega | (simp only [List.length_replicate, List.length_map]; omega)) only [go_sem, Nat.reduceEqDiff, Nat.reduceBEq, Nat.reduceAdd, Nat.reduceMul, Nat.reduceLT, Nat.reduceLeDiff, Nat.reduceSub, Nat.reducePow, Int.reduceAdd, Int.reduceSub, Int.reduceMul, Int.reduceNeg, Int.reduceLT, Int.reduceLE, Int.reduceGT, Int.reduceGE, Int.reduceBEq, Int.reduceBNe, Int.reduceMod, Int.reduceDiv, Int.reduceToNat, reduceCtorEq, ↓reduceIte, cons_beq_nil, hP, hL, hE]; (fail_if_success show False); repeat refine ⟨by first | omega | (simp; done) | (simp; omega) | (intro e; have e' := congrArg List.length e; simp only [List.length_map, List.length_nil] at e'; omega), ?_⟩)
    | refine PW.cond (b := true) rfl (fun _ => ?_) (fun h => nomatch h)
    | refine PW.cond (b := false) rfl (fun h => nomatch h) (fun _ => ?_)
    | (refine PW.cond (by first | rfl | (simp (disch := first | omega | (simp only [List.length_replicate, List.length_map]; omega)) only [go_sem, Nat.reduceEqDiff, Nat.reduceBEq, Nat.reduceAdd, Nat.reduceMul, Nat.reduceLT, Nat.reduceLeDiff, Nat.reduceSub, Nat.reducePow, Int.reduceAdd, Int.reduceSub, Int.reduceMul, Int.reduceNeg, Int.reduceLT, Int.reduceLE, Int.reduceGT, Int.reduceGE, Int.reduceBEq, Int.reduceBNe, Int.reduceMod, Int.reduceDiv, Int.reduceToNat, reduceCtorEq, ↓reduceIte, cons_beq_nil, hP, hL, hE]; done) | (simp (disch := first | omega | (simp only [List.length_replicate, List.length_map]; omega)) only [go_sem, Nat.reduceEqDiff, Nat.reduceBEq, Nat.reduceAdd, Nat.reduceMul, Nat.reduceLT, Nat.reduceLeDiff, Nat.reduceSub, Nat.reducePow, Int.reduceAdd, Int.reduceSub, Int.reduceMul, Int.reduceNeg, Int.reduceLT, Int.reduceLE, Int.reduceGT, Int.reduceGE, Int.reduceBEq, Int.reduceBNe, Int.reduceMod, Int.reduceDiv, Int.reduceToNat, reduceCtorEq, ↓reduceIte, cons_beq_nil, hP, hL, hE]; rfl)) ?_ ?_ <;> (intro hb; (try simp only [hb]); have hq := hb; (try simp only [decide_eq_true_eq, decide_eq_false_iff_not, beq_iff_eq, beq_eq_false_iff_ne, bne_iff_ne, bne_eq_false_iff_eq, Bool.not_eq_true', Bool.not_eq_false', Int.not_lt, Int.not_le, ge_iff_le, gt_iff_lt, cons_beq_nil, hP, hL, hE] at hq))))
  all_goals (first | (first | omega | (simp only [decide_eq_true_eq]; omega)) | skip)

set_option maxHeartbeats 4000000 in
theorem NibUnpacks_good (c : UInt8) (r : List UInt8) (hl : r.length + 1 ≤ maxLen) (hbad : unpBad c (r.length + 1) = false) : Fun Try.prog 6 [.val (.string ⟨(c :: r).toArray⟩)] (.val (.bool (true))) := by
  obtain ⟨hE, hR, hN, hK⟩ := unp_is_good (r := r) hbad
  refine Fun.of_body Try.func6 rfl (by simp [Try.ntmps6]) ?_
  rw [Try.ntmps6]
  repeat' (first
    | refine PW.seq ?_
    | refine PW.block ?_
    | (refine PW.skip ?_; (try simp only [then_normal, then_exit, then_ret, then_panic, block_normal, block_exit, block_ret, block_panic, Nat.reduceEqDiff, ↓reduceIte]))
    | (refine PW.exit ?_; (try simp only [then_normal, then_exit, then_ret, then_panic, block_normal, block_exit, block_ret, block_panic, Nat.reduceEqDiff, ↓reduceIte]))
    | (refine PW.ret ?_; (try simp only [then_normal, then_exit, then_ret, then_panic, block_normal, block_exit, block_ret, block_panic, Nat.reduceEqDiff, ↓reduceIte]))
    | (show Ends _ _ _ _ _; simp only [Ends, T.res_6, resP, resP1, or_false, or_true, true_or, D.val.injEq, Value.int.injEq, Value.bool.injEq, go_sem, Nat.reduceEqDiff, Nat.reduceBEq, Nat.reduceAdd, Nat.reduceMul, Nat.reduceLT, Nat.reduceLeDiff, Nat.reduceSub, Nat.reducePow, Int.reduceAdd, Int.reduceSub, Int.reduceMul, Int.reduceNeg, Int.reduceLT, Int.reduceLE, Int.reduceGT, Int.reduceGE, Int.reduceBEq, Int.reduceBNe, Int.reduceMod, Int.reduceDiv, Int.reduceToNat, reduceCtorEq, ↓reduceIte, cons_beq_nil, hE, hR, hK])
    | refine PW.regT (by kernel_rfl) ?_
    | (refine XK.nil ?_; (try simp only [then_normal, then_exit, then_ret, then_panic, block_normal, block_exit, block_ret, block_panic, Nat.reduceEqDiff, ↓reduceIte]))
    | refine XK.off (by rfl) ?_
    | refine XK.call (f := 33) rfl rfl rfl T.enters_33 rfl (awake02_fun) ?_
    | refine XK.callOn (f := 33) (by rfl) rfl rfl T.enters_33 rfl (awake02_fun) ?_
    | refine XK.call (f := 36) rfl rfl rfl T.enters_36 rfl (Unpack_fun _ (by first | omega | (simp; omega) | simp)) ?_
    | refine XK.callOn (f := 36) (by rfl) rfl rfl T.enters_36 rfl (Unpack_fun _ (by first | omega | (simp; omega) | simp)) ?_
    | refine XK.call (f := 35) rfl rfl rfl T.enters_35 rfl (RefRight_fun _ (by omega)) ?_
    | refine XK.callOn (f := 35) (by rfl) rfl rfl T.enters_35 rfl (RefRight_fun _ (by omega)) ?_
    | refine XK.call (f := 37) rfl rfl rfl T.enters_37 rfl (RefPack_fun _ _ (by omega) hR) ?_
    | refine XK.callOn (f := 37) (by rfl) rfl rfl T.enters_37 rfl (RefPack_fun _ _ (by omega) hR) ?_
    | (refine XK.on (by rfl) ?_; simp (disch := first | omega | (simp only [List.length_replicate, List.length_map]; omega)) only [go_sem, Nat.reduceEqDiff, Nat.reduceBEq, Nat.reduceAdd, Nat.reduceMul, Nat.reduceLT, Nat.reduceLeDiff, Nat.reduceSub, Nat.reducePow, Int.reduceAdd, Int.reduceSub, Int.reduceMul, Int.reduceNeg, Int.reduceLT, Int.reduceLE, Int.reduceGT, Int.reduceGE, Int.reduceBEq, Int.reduceBNe, Int.reduceMod, Int.reduceDiv, Int.reduceToNat, reduceCtorEq, ↓reduceIte, cons_beq_nil, hE, hR, hK]; repeat refine ⟨by first | omega | (simp; done) | (simp; omega) | (intro e; have e' := congrArg List.length e; simp only [List.length_map, List.length_nil] at e'; omega), ?_⟩)
    | (refine XK.part (by rfl) ?_ ?_ <;> (intro hb; simp only [hb]; have hq := hb; (try simp only [decide_eq_true_eq, decide_eq_false_iff_not, beq_iff_eq, beq_eq_false_iff_ne, bne_iff_ne, bne_eq_false_iff_eq, Bool.not_eq_true', Bool.not_eq_false', Int.not_lt, Int.not_le, ge_iff_le, gt_iff_lt, cons_beq_nil, hE, hR, hK] at hq)))
    | (refine XK.step rfl ?_; simp (disch := first | omega | (simp only [List.length_replicate, List.length_map]; omega)) only [go_sem, Nat.reduceEqDiff, Nat.reduceBEq, Nat.reduceAdd, Nat.reduceMul, Nat.reduceLT, Nat.reduceLeDiff, Nat.reduceSub, Nat.reducePow, Int.reduceAdd, Int.reduceSub, Int.reduceMul, Int.reduceNeg, Int.reduceLT, Int.reduceLE, Int.reduceGT, Int.reduceGE, Int.reduceBEq, Int.reduceBNe, Int.reduceMod, Int.reduceDiv, Int.reduceToNat, reduceCtorEq, ↓reduceIte, cons_beq_nil, hE, hR, hK]; (fail_if_success show False); repeat refine ⟨by first | omega | (simp; done) | (simp; omega) | (intro e; have e' := congrArg List.length e; simp only [List.length_map, List.length_nil] at e'; omega), ?_⟩)
    | refine PW.cond (b := true) rfl (fun _ => ?_) (fun h => nomatch h)
    | refine PW.cond (b := false) rfl (fun h => nomatch h) (fun _ => ?_)
    | (refine PW.cond (by first | rfl | (simp (disch := first | omega | (simp only [List.length_replicate, List.length_map]; omega)) only [go_sem, Nat.reduceEqDiff, Nat.reduceBEq, Nat.reduceAdd, Nat.reduceMul, Nat.reduceLT, Nat.reduceLeDiff, Nat.reduceSub, Nat.reducePow, Int.reduceAdd, Int.reduceSub, Int.reduceMul, Int.reduceNeg, Int.reduceLT, Int.reduceLE, Int.reduceGT, Int.reduceGE, Int.reduceBEq, Int.reduceBNe, Int.reduceMod, Int.reduceDiv, Int.reduceToNat, reduceCtorEq, ↓reduceIte, cons_beq_nil, hE, hR, hK]; done) | (simp (disch := first | omega | (simp only [List.length_replicate, List.length_map]; omega)) only [go_sem, Nat.reduceEqDiff, Nat.reduceBEq, Nat.reduceAdd, Nat.reduceMul, Nat.reduceLT, Nat.reduceLeDiff, Nat.reduceSub, Nat.reducePow, Int.reduceAdd, Int.reduceSub, Int.reduceMul, Int.reduceNeg, Int.reduceLT, Int.reduceLE, Int.reduceGT, Int.reduceGE, Int.reduceBEq, Int.reduceBNe, Int.reduceMod, Int.reduceDiv, Int.reduceToNat, reduceCtorEq, ↓reduceIte, cons_beq_nil, hE, hR, hK]; rfl)) ?_ ?_ <;> (intro hb; (try simp only [hb]); have hq := hb; (try simp only [decide_eq_true_eq, decide_eq_false_iff_not, beq_iff_eq, beq_eq_false_iff_ne, bne_iff_ne, bne_eq_false_iff_eq, Bool.not_eq_true', Bool.not_eq_false', Int.not_lt, Int.not_le, ge_iff_le, gt_iff_lt, cons_beq_nil, hE, hR, hK] at hq))))
  all_goals (first | (omega) | skip)

set_option maxHeartbeats 4000000 in
theorem NibUnpacks_fun (s : List UInt8) (hs : s.length ≤ maxLen) : Fun Try.prog 6 [.val (.string ⟨(s).toArray⟩)] (.val (.bool (true))) := by
  cases s with
  | nil => exact NibUnpacks_nil
  | cons c r => cases h : unpBad c (r.length + 1) with
    | false => exact NibUnpacks_good c r hs h
    | true => exact NibUnpacks_bad c r hs h

end Go.Proofs.Ytonlehebfeilmaa.K
