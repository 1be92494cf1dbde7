/- NibPacks: the walk. -/
import Derived.Test.YtonlehebfeilmaaWNib
import Derived.KernelRfl
namespace Go.Proofs.Ytonlehebfeilmaa.K
open Go Go.RowKit
set_option linter.unusedSimpArgs false
set_option linter.unusedVariables false
attribute [local congr] PW_congr XK_congr RK_congr RQ_congr stepF_congr guardF_congr then_congr inBlock_congr Ends_congr appendF_congr CallK_congr CallG_congr EqK_congr EqG_congr SpecK_congr CallX_congr
set_option maxHeartbeats 4000000 in
theorem NibPacks_ok (p : List UInt8) (leaf : Bool) (hp : p.length ≤ maxLen) (hok : okP p = true) : Fun Try.prog 5 [.slice ((p).map byteD), .val (.bool leaf)] (.val (.bool (true))) := by
  obtain ⟨h1, h2⟩ := okP_ok hok
  obtain ⟨hu1, hu2, hu3⟩ := unp_pack hok leaf
  have h3 := packS_len p leaf
  refine Fun.of_body Try.func5 rfl (by simp [Try.ntmps5]) ?_
  rw [Try.ntmps5]
  repeat' (first
    | refine PW.seq ?_
    | refine PW.block ?_
    | (refine PW.skip ?_; (try simp only [then_normal, then_exit, then_ret, then_panic, block_normal, block_exit, block_ret, block_panic, Nat.reduceEqDiff, ↓reduceIte]))
    | (refine PW.exit ?_; (try simp only [then_normal, then_exit, then_ret, then_panic, block_normal, block_exit, block_ret, block_panic, Nat.reduceEqDiff, ↓reduceIte]))
    | (refine PW.ret ?_; (try simp only [then_normal, then_exit, then_ret, then_panic, block_normal, block_exit, block_ret, block_panic, Nat.reduceEqDiff, ↓reduceIte]))
    | (show Ends _ _ _ _ _; simp only [Ends, T.res_5, resP, resP1, or_false, or_true, true_or, D.val.injEq, Value.int.injEq, Value.bool.injEq, go_sem, Nat.reduceEqDiff, Nat.reduceBEq, Nat.reduceAdd, Nat.reduceMul, Nat.reduceLT, Nat.reduceLeDiff, Nat.reduceSub, Nat.reducePow, Int.reduceAdd, Int.reduceSub, Int.reduceMul, Int.reduceNeg, Int.reduceLT, Int.reduceLE, Int.reduceGT, Int.reduceGE, Int.reduceBEq, Int.reduceBNe, Int.reduceMod, Int.reduceDiv, Int.reduceToNat, reduceCtorEq, ↓reduceIte, hok, h1, hu1, hu2, hu3])
    | refine PW.regT (by kernel_rfl) ?_
    | (refine XK.nil ?_; (try simp only [then_normal, then_exit, then_ret, then_panic, block_normal, block_exit, block_ret, block_panic, Nat.reduceEqDiff, ↓reduceIte]))
    | refine XK.off (by rfl) ?_
    | refine XK.call (f := 33) rfl rfl rfl T.enters_33 rfl (awake02_fun) ?_
    | refine XK.callOn (f := 33) (by rfl) rfl rfl T.enters_33 rfl (awake02_fun) ?_
    | refine XK.call (f := 34) rfl rfl rfl T.enters_34 rfl (Pack_fun p leaf (by omega)) ?_
    | refine XK.callOn (f := 34) (by rfl) rfl rfl T.enters_34 rfl (Pack_fun p leaf (by omega)) ?_
    | refine XK.call (f := 35) rfl rfl rfl T.enters_35 rfl (RefRight_fun p (by omega)) ?_
    | refine XK.callOn (f := 35) (by rfl) rfl rfl T.enters_35 rfl (RefRight_fun p (by omega)) ?_
    | refine XK.call (f := 36) rfl rfl rfl T.enters_36 rfl (Unpack_fun _ (by omega)) ?_
    | refine XK.callOn (f := 36) (by rfl) rfl rfl T.enters_36 rfl (Unpack_fun _ (by omega)) ?_
    | refine XK.call (f := 37) rfl rfl rfl T.enters_37 rfl (RefPack_fun p leaf (by omega) h1) ?_
    | refine XK.callOn (f := 37) (by rfl) rfl rfl T.enters_37 rfl (RefPack_fun p leaf (by omega) h1) ?_
    | (refine XK.on (by rfl) ?_; simp (disch := first | omega | (simp only [List.length_replicate, List.length_map]; omega)) only [go_sem, Nat.reduceEqDiff, Nat.reduceBEq, Nat.reduceAdd, Nat.reduceMul, Nat.reduceLT, Nat.reduceLeDiff, Nat.reduceSub, Nat.reducePow, Int.reduceAdd, Int.reduceSub, Int.reduceMul, Int.reduceNeg, Int.reduceLT, Int.reduceLE, Int.reduceGT, Int.reduceGE, Int.reduceBEq, Int.reduceBNe, Int.reduceMod, Int.reduceDiv, Int.reduceToNat, reduceCtorEq, ↓reduceIte, hok, h1, hu1, hu2, hu3]; repeat refine ⟨by first | omega | (simp; done) | (simp; omega) | (intro e; have e' := congrArg List.length e; simp only [List.length_map, List.length_nil] at e'; omega), ?_⟩)
    | (refine XK.part (by rfl) ?_ ?_ <;> (intro hb; simp only [hb]; have hq := hb; (try simp only [decide_eq_true_eq, decide_eq_false_iff_not, beq_iff_eq, beq_eq_false_iff_ne, bne_iff_ne, bne_eq_false_iff_eq, Bool.not_eq_true', Bool.not_eq_false', Int.not_lt, Int.not_le, ge_iff_le, gt_iff_lt, hok, h1, hu1, hu2, hu3] at hq)))
    | (refine XK.step rfl ?_; simp (disch := first | omega | (simp only [List.length_replicate, List.length_map]; omega)) only [go_sem, Nat.reduceEqDiff, Nat.reduceBEq, Nat.reduceAdd, Nat.reduceMul, Nat.reduceLT, Nat.reduceLeDiff, Nat.reduceSub, Nat.reducePow, Int.reduceAdd, Int.reduceSub, Int.reduceMul, Int.reduceNeg, Int.reduceLT, Int.reduceLE, Int.reduceGT, Int.reduceGE, Int.reduceBEq, Int.reduceBNe, Int.reduceMod, Int.reduceDiv, Int.reduceToNat, reduceCtorEq, ↓reduceIte, hok, h1, hu1, hu2, hu3]; (fail_if_success show False); repeat refine ⟨by first | omega | (simp; done) | (simp; omega) | (intro e; have e' := congrArg List.length e; simp only [List.length_map, List.length_nil] at e'; omega), ?_⟩)
    | refine PW.cond (b := true) rfl (fun _ => ?_) (fun h => nomatch h)
    | refine PW.cond (b := false) rfl (fun h => nomatch h) (fun _ => ?_)
    | (refine PW.cond (by first | rfl | (simp (disch := first | omega | (simp only [List.length_replicate, List.length_map]; omega)) only [go_sem, Nat.reduceEqDiff, Nat.reduceBEq, Nat.reduceAdd, Nat.reduceMul, Nat.reduceLT, Nat.reduceLeDiff, Nat.reduceSub, Nat.reducePow, Int.reduceAdd, Int.reduceSub, Int.reduceMul, Int.reduceNeg, Int.reduceLT, Int.reduceLE, Int.reduceGT, Int.reduceGE, Int.reduceBEq, Int.reduceBNe, Int.reduceMod, Int.reduceDiv, Int.reduceToNat, reduceCtorEq, ↓reduceIte, hok, h1, hu1, hu2, hu3]; done) | (simp (disch := first | omega | (simp only [List.length_replicate, List.length_map]; omega)) only [go_sem, Nat.reduceEqDiff, Nat.reduceBEq, Nat.reduceAdd, Nat.reduceMul, Nat.reduceLT, Nat.reduceLeDiff, Nat.reduceSub, Nat.reducePow, Int.reduceAdd, Int.reduceSub, Int.reduceMul, Int.reduceNeg, Int.reduceLT, Int.reduceLE, Int.reduceGT, Int.reduceGE, Int.reduceBEq, Int.reduceBNe, Int.reduceMod, Int.reduceDiv, Int.reduceToNat, reduceCtorEq, ↓reduceIte, hok, h1, hu1, hu2, hu3]; rfl)) ?_ ?_ <;> (intro hb; (try simp only [hb]); have hq := hb; (try simp only [decide_eq_true_eq, decide_eq_false_iff_not, beq_iff_eq, beq_eq_false_iff_ne, bne_iff_ne, bne_eq_false_iff_eq, Bool.not_eq_true', Bool.not_eq_false', Int.not_lt, Int.not_le, ge_iff_le, gt_iff_lt, hok, h1, hu1, hu2, hu3] at hq))))
  all_goals (first | (omega) | skip)

set_option maxHeartbeats 4000000 in
theorem NibPacks_no1 (p : List UInt8) (leaf : Bool) (hp : p.length ≤ maxLen) (h1 : right p = false) : Fun Try.prog 5 [.slice ((p).map byteD), .val (.bool leaf)] (.val (.bool (true))) := by
  have hok : okP p = false := okP_no (.inl h1)
  refine Fun.of_body Try.func5 rfl (by simp [Try.ntmps5]) ?_
  rw [Try.ntmps5]
  repeat' (first
    | refine PW.seq ?_
    | refine PW.block ?_
    | (refine PW.skip ?_; (try simp only [then_normal, then_exit, then_ret, then_panic, block_normal, block_exit, block_ret, block_panic, Nat.reduceEqDiff, ↓reduceIte]))
    | (refine PW.exit ?_; (try simp only [then_normal, then_exit, then_ret, then_panic, block_normal, block_exit, block_ret, block_panic, Nat.reduceEqDiff, ↓reduceIte]))
    | (refine PW.ret ?_; (try simp only [then_normal, then_exit, then_ret, then_panic, block_normal, block_exit, block_ret, block_panic, Nat.reduceEqDiff, ↓reduceIte]))
    | (show Ends _ _ _ _ _; simp only [Ends, T.res_5, resP, resP1, or_false, or_true, true_or, D.val.injEq, Value.int.injEq, Value.bool.injEq, go_sem, Nat.reduceEqDiff, Nat.reduceBEq, Nat.reduceAdd, Nat.reduceMul, Nat.reduceLT, Nat.reduceLeDiff, Nat.reduceSub, Nat.reducePow, Int.reduceAdd, Int.reduceSub, Int.reduceMul, Int.reduceNeg, Int.reduceLT, Int.reduceLE, Int.reduceGT, Int.reduceGE, Int.reduceBEq, Int.reduceBNe, Int.reduceMod, Int.reduceDiv, Int.reduceToNat, reduceCtorEq, ↓reduceIte, hok, h1])
    | refine PW.regT (by kernel_rfl) ?_
    | (refine XK.nil ?_; (try simp only [then_normal, then_exit, then_ret, then_panic, block_normal, block_exit, block_ret, block_panic, Nat.reduceEqDiff, ↓reduceIte]))
    | refine XK.off (by rfl) ?_
    | refine XK.call (f := 33) rfl rfl rfl T.enters_33 rfl (awake02_fun) ?_
    | refine XK.callOn (f := 33) (by rfl) rfl rfl T.enters_33 rfl (awake02_fun) ?_
    | refine XK.call (f := 34) rfl rfl rfl T.enters_34 rfl (Pack_fun p leaf (by omega)) ?_
    | refine XK.callOn (f := 34) (by rfl) rfl rfl T.enters_34 rfl (Pack_fun p leaf (by omega)) ?_
    | refine XK.call (f := 35) rfl rfl rfl T.enters_35 rfl (RefRight_fun p (by omega)) ?_
    | refine XK.callOn (f := 35) (by rfl) rfl rfl T.enters_35 rfl (RefRight_fun p (by omega)) ?_
    | refine XK.call (f := 36) rfl rfl rfl T.enters_36 rfl (Unpack_fun [] (by simp)) ?_
    | refine XK.callOn (f := 36) (by rfl) rfl rfl T.enters_36 rfl (Unpack_fun [] (by simp)) ?_
    | refine XK.call (f := 37) rfl rfl rfl T.enters_37 rfl (RefPack_fun p leaf (by omega) h1) ?_
    | refine XK.callOn (f := 37) (by rfl) rfl rfl T.enters_37 rfl (RefPack_fun p leaf (by omega) h1) ?_
    | (refine XK.on (by rfl) ?_; simp (disch := first | omega | (simp only [List.length_replicate, List.length_map]; omega)) only [go_sem, Nat.reduceEqDiff, Nat.reduceBEq, Nat.reduceAdd, Nat.reduceMul, Nat.reduceLT, Nat.reduceLeDiff, Nat.reduceSub, Nat.reducePow, Int.reduceAdd, Int.reduceSub, Int.reduceMul, Int.reduceNeg, Int.reduceLT, Int.reduceLE, Int.reduceGT, Int.reduceGE, Int.reduceBEq, Int.reduceBNe, Int.reduceMod, Int.reduceDiv, Int.reduceToNat, reduceCtorEq, ↓reduceIte, hok, h1]; repeat refine ⟨by first | omega | (simp; done) | (simp; omega) | (intro e; have e' := congrArg List.length e; simp only [List.length_map, List.length_nil] at e'; omega), ?_⟩)
    | (refine XK.part (by rfl) ?_ ?_ <;> (intro hb; simp only [hb]; have hq := hb; (try simp only [decide_eq_true_eq, decide_eq_false_iff_not, beq_iff_eq, beq_eq_false_iff_ne, bne_iff_ne, bne_eq_false_iff_eq, Bool.not_eq_true', Bool.not_eq_false', Int.not_lt, Int.not_le, ge_iff_le, gt_iff_lt, hok, h1] at hq)))
    | (refine XK.step rfl ?_; simp (disch := first | omega | (simp only [List.length_replicate, List.length_map]; omega)) only [go_sem, Nat.reduceEqDiff, Nat.reduceBEq, Nat.reduceAdd, Nat.reduceMul, Nat.reduceLT, Nat.reduceLeDiff, Nat.reduceSub, Nat.reducePow, Int.reduceAdd, Int.reduceSub, Int.reduceMul, Int.reduceNeg, Int.reduceLT, Int.reduceLE, Int.reduceGT, Int.reduceGE, Int.reduceBEq, Int.reduceBNe, Int.reduceMod, Int.reduceDiv, Int.reduceToNat, reduceCtorEq, ↓reduceIte, hok, h1]; (fail_if_success show False); repeat refine ⟨by first | omega | (simp; done) | (simp; omega) | (intro e; have e' := congrArg List.length e; simp only [List.length_map, List.length_nil] at e'; omega), ?_⟩)
    | refine PW.cond (b := true) rfl (fun _ => ?_) (fun h => nomatch h)
    | refine PW.cond (b := false) rfl (fun h => nomatch h) (fun _ => ?_)
    | (refine PW.cond (by first | rfl | (simp (disch := first | omega | (simp only [List.length_replicate, List.length_map]; omega)) only [go_sem, Nat.reduceEqDiff, Nat.reduceBEq, Nat.reduceAdd, Nat.reduceMul, Nat.reduceLT, Nat.reduceLeDiff, Nat.reduceSub, Nat.reducePow, Int.reduceAdd, Int.reduceSub, Int.reduceMul, Int.reduceNeg, Int.reduceLT, Int.reduceLE, Int.reduceGT, Int.reduceGE, Int.reduceBEq, Int.reduceBNe, Int.reduceMod, Int.reduceDiv, Int.reduceToNat, reduceCtorEq, ↓reduceIte, hok, h1]; done) | (simp (disch := first | omega | (simp only [List.length_replicate, List.length_map]; omega)) only [go_sem, Nat.reduceEqDiff, Nat.reduceBEq, Nat.reduceAdd, Nat.reduceMul, Nat.reduceLT, Nat.reduceLeDiff, Nat.reduceSub, Nat.reducePow, Int.reduceAdd, Int.reduceSub, Int.reduceMul, Int.reduceNeg, Int.reduceLT, Int.reduceLE, Int.reduceGT, Int.reduceGE, Int.reduceBEq, Int.reduceBNe, Int.reduceMod, Int.reduceDiv, Int.reduceToNat, reduceCtorEq, ↓reduceIte, hok, h1]; rfl)) ?_ ?_ <;> (intro hb; (try simp only [hb]); have hq := hb; (try simp only [decide_eq_true_eq, decide_eq_false_iff_not, beq_iff_eq, beq_eq_false_iff_ne, bne_iff_ne, bne_eq_false_iff_eq, Bool.not_eq_true', Bool.not_eq_false', Int.not_lt, Int.not_le, ge_iff_le, gt_iff_lt, hok, h1] at hq))))
  all_goals (first | (fail) | skip)

set_option maxHeartbeats 4000000 in
theorem NibPacks_no2 (p : List UInt8) (leaf : Bool) (hp : p.length ≤ maxLen) (h1 : right p = true) (h2 : 64 < p.length) : Fun Try.prog 5 [.slice ((p).map byteD), .val (.bool leaf)] (.val (.bool (true))) := by
  have hok : okP p = false := okP_no (.inr h2)
  refine Fun.of_body Try.func5 rfl (by simp [Try.ntmps5]) ?_
  rw [Try.ntmps5]
  repeat' (first
    | refine PW.seq ?_
    | refine PW.block ?_
    | (refine PW.skip ?_; (try simp only [then_normal, then_exit, then_ret, then_panic, block_normal, block_exit, block_ret, block_panic, Nat.reduceEqDiff, ↓reduceIte]))
    | (refine PW.exit ?_; (try simp only [then_normal, then_exit, then_ret, then_panic, block_normal, block_exit, block_ret, block_panic, Nat.reduceEqDiff, ↓reduceIte]))
    | (refine PW.ret ?_; (try simp only [then_normal, then_exit, then_ret, then_panic, block_normal, block_exit, block_ret, block_panic, Nat.reduceEqDiff, ↓reduceIte]))
    | (show Ends _ _ _ _ _; simp only [Ends, T.res_5, resP, resP1, or_false, or_true, true_or, D.val.injEq, Value.int.injEq, Value.bool.injEq, go_sem, Nat.reduceEqDiff, Nat.reduceBEq, Nat.reduceAdd, Nat.reduceMul, Nat.reduceLT, Nat.reduceLeDiff, Nat.reduceSub, Nat.reducePow, Int.reduceAdd, Int.reduceSub, Int.reduceMul, Int.reduceNeg, Int.reduceLT, Int.reduceLE, Int.reduceGT, Int.reduceGE, Int.reduceBEq, Int.reduceBNe, Int.reduceMod, Int.reduceDiv, Int.reduceToNat, reduceCtorEq, ↓reduceIte, hok, h1])
    | refine PW.regT (by kernel_rfl) ?_
    | (refine XK.nil ?_; (try simp only [then_normal, then_exit, then_ret, then_panic, block_normal, block_exit, block_ret, block_panic, Nat.reduceEqDiff, ↓reduceIte]))
    | refine XK.off (by rfl) ?_
    | refine XK.call (f := 33) rfl rfl rfl T.enters_33 rfl (awake02_fun) ?_
    | refine XK.callOn (f := 33) (by rfl) rfl rfl T.enters_33 rfl (awake02_fun) ?_
    | refine XK.call (f := 34) rfl rfl rfl T.enters_34 rfl (Pack_fun p leaf (by omega)) ?_
    | refine XK.callOn (f := 34) (by rfl) rfl rfl T.enters_34 rfl (Pack_fun p leaf (by omega)) ?_
    | refine XK.call (f := 35) rfl rfl rfl T.enters_35 rfl (RefRight_fun p (by omega)) ?_
    | refine XK.callOn (f := 35) (by rfl) rfl rfl T.enters_35 rfl (RefRight_fun p (by omega)) ?_
    | refine XK.call (f := 36) rfl rfl rfl T.enters_36 rfl (Unpack_fun [] (by simp)) ?_
    | refine XK.callOn (f := 36) (by rfl) rfl rfl T.enters_36 rfl (Unpack_fun [] (by simp)) ?_
    | refine XK.call (f := 37) rfl rfl rfl T.enters_37 rfl (RefPack_fun p leaf (by omega) h1) ?_
    | refine XK.callOn (f := 37) (by rfl) rfl rfl T.enters_37 rfl (RefPack_fun p leaf (by omega) h1) ?_
    | (refine XK.on (by rfl) ?_; simp (disch := first | omega | (simp only [List.length_replicate, List.length_map]; omega)) only [go_sem, Nat.reduceEqDiff, Nat.reduceBEq, Nat.reduceAdd, Nat.reduceMul, Nat.reduceLT, Nat.reduceLeDiff, Nat.reduceSub, Nat.reducePow, Int.reduceAdd, Int.reduceSub, Int.reduceMul, Int.reduceNeg, Int.reduceLT, Int.reduceLE, Int.reduceGT, Int.reduceGE, Int.reduceBEq, Int.reduceBNe, Int.reduceMod, Int.reduceDiv, Int.reduceToNat, reduceCtorEq, ↓reduceIte, hok, h1]; repeat refine ⟨by first | omega | (simp; done) | (simp; omega) | (intro e; have e' := congrArg List.length e; simp only [List.length_map, List.length_nil] at e'; omega), ?_⟩)
    | (refine XK.part (by rfl) ?_ ?_ <;> (intro hb; simp only [hb]; have hq := hb; (try simp only [decide_eq_true_eq, decide_eq_false_iff_not, beq_iff_eq, beq_eq_false_iff_ne, bne_iff_ne, bne_eq_false_iff_eq, Bool.not_eq_true', Bool.not_eq_false', Int.not_lt, Int.not_le, ge_iff_le, gt_iff_lt, hok, h1] at hq)))
    | (refine XK.step rfl ?_; simp (disch := first | omega | (simp only [List.length_replicate, List.length_map]; omega)) only [go_sem, Nat.reduceEqDiff, Nat.reduceBEq, Nat.reduceAdd, Nat.reduceMul, Nat.reduceLT, Nat.reduceLeDiff, Nat.reduceSub, Nat.reducePow, Int.reduceAdd, Int.reduceSub, Int.reduceMul, Int.reduceNeg, Int.reduceLT, Int.reduceLE, Int.reduceGT, Int.reduceGE, Int.reduceBEq, Int.reduceBNe, Int.reduceMod, Int.reduceDiv, Int.reduceToNat, reduceCtorEq, ↓reduceIte, hok, h1]; (fail_if_success show False); repeat refine ⟨by first | omega | (simp; done) | (simp; omega) | (intro e; have e' := congrArg List.length e; simp only [List.length_map, List.length_nil] at e'; omega), ?_⟩)
    | refine PW.cond (b := true) rfl (fun _ => ?_) (fun h => nomatch h)
    | refine PW.cond (b := false) rfl (fun h => nomatch h) (fun _ => ?_)
    | (refine PW.cond (by first | rfl | (simp (disch := first | omega | (simp only [List.length_replicate, List.length_map]; omega)) only [go_sem, Nat.reduceEqDiff, Nat.reduceBEq, Nat.reduceAdd, Nat.reduceMul, Nat.reduceLT, Nat.reduceLeDiff, Nat.reduceSub, Nat.reducePow, Int.reduceAdd, Int.reduceSub, Int.reduceMul, Int.reduceNeg, Int.reduceLT, Int.reduceLE, Int.reduceGT, Int.reduceGE, Int.reduceBEq, Int.reduceBNe, Int.reduceMod, Int.reduceDiv, Int.reduceToNat, reduceCtorEq, ↓reduceIte, hok, h1]; done) | (simp (disch := first | omega | (simp only [List.length_replicate, List.length_map]; omega)) only [go_sem, Nat.reduceEqDiff, Nat.reduceBEq, Nat.reduceAdd, Nat.reduceMul, Nat.reduceLT, Nat.reduceLeDiff, Nat.reduceSub, Nat.reducePow, Int.reduceAdd, Int.reduceSub, Int.reduceMul, Int.reduceNeg, Int.reduceLT, Int.reduceLE, Int.reduceGT, Int.reduceGE, Int.reduceBEq, Int.reduceBNe, Int.reduceMod, Int.reduceDiv, Int.reduceToNat, reduceCtorEq, ↓reduceIte, hok, h1]; rfl)) ?_ ?_ <;> (intro hb; (try simp only [hb]); have hq := hb; (try simp only [decide_eq_true_eq, decide_eq_false_iff_not, beq_iff_eq, beq_eq_false_iff_ne, bne_iff_ne, bne_eq_false_iff_eq, Bool.not_eq_true', Bool.not_eq_false', Int.not_lt, Int.not_le, ge_iff_le, gt_iff_lt, hok, h1] at hq))))
  all_goals (first | (omega) | skip)

set_option maxHeartbeats 4000000 in
theorem NibPacks_fun (p : List UInt8) (leaf : Bool) (hp : p.length ≤ maxLen) : Fun Try.prog 5 [.slice ((p).map byteD), .val (.bool leaf)] (.val (.bool (true))) := by
  cases h1 : right p with
  | false => exact NibPacks_no1 p leaf hp h1
  | true =>
    by_cases h2 : p.length ≤ 64
    · exact NibPacks_ok p leaf hp (okP_yes h1 h2)
    · exact NibPacks_no2 p leaf hp h1 (by omega)

end Go.Proofs.Ytonlehebfeilmaa.K
