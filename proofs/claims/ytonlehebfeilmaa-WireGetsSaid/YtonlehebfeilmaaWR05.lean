/- The reference of layer 5: what it reckons. -/
import Derived.Test.YtonlehebfeilmaaWRlp
import Derived.KernelRfl
namespace Go.Proofs.Ytonlehebfeilmaa.K
open Go Go.RowKit
set_option linter.unusedSimpArgs false
set_option linter.unusedVariables false
namespace TT
theorem enters_101 : entersB Try.prog 101 = true := by kernel_rfl
theorem enters_106 : entersB Try.prog 106 = true := by kernel_rfl
theorem enters_56 : entersB Try.prog 56 = true := by kernel_rfl
theorem enters_65 : entersB Try.prog 65 = true := by kernel_rfl
theorem enters_67 : entersB Try.prog 67 = true := by kernel_rfl
theorem enters_79 : entersB Try.prog 79 = true := by kernel_rfl
theorem enters_81 : entersB Try.prog 81 = true := by kernel_rfl
theorem res_101 : Try.f101.results.toList = [.tmp 2, .tmp 3] := rfl
theorem res_106 : Try.f106.results.toList = [.tmp 2] := rfl
theorem res_56 : Try.f56.results.toList = [.tmp 4] := rfl
theorem res_57 : Try.f57.results.toList = [.tmp 4] := rfl
theorem res_65 : Try.f65.results.toList = [.tmp 4] := rfl
theorem res_67 : Try.f67.results.toList = [.tmp 4] := rfl
theorem res_79 : Try.f79.results.toList = [.tmp 2] := rfl
theorem res_81 : Try.f81.results.toList = [.cell 6 80, .tmp 7, .tmp 8, .tmp 9] := rfl
end TT
noncomputable def gs_ref05_big (self : Int → Option (List UInt8)) (n0 : Int) : Option (List UInt8) :=
    (bif (decide (n0 = (0 : Int))) then
    some ([] : List UInt8)
    else
    gO ((256 : Int) ≠ 0 ∧ inI (n0.tdiv (256 : Int))) (
    ((self (n0.tdiv (256 : Int))).bind fun (x3 : (List UInt8)) =>
    gO (x3.length + ([(u8I (n0.tmod (256 : Int)))] : List UInt8).length ≤ 9223372036854775807) (
    some (x3 ++ ([(u8I (n0.tmod (256 : Int)))] : List UInt8))))))

set_option maxRecDepth 20000 in
set_option maxHeartbeats 4000000 in
theorem sims_ref05_big (self : Int → Option (List UInt8)) (hself : ∀ (y0 : Int) (rr : (List UInt8)), self y0 = some rr → Fun Try.prog 106 [.val (.int .i64 y0)] (.val (sV rr))) (n0 : Int) (r : (List UInt8)) (h : gs_ref05_big self n0 = some r) : Fun Try.prog 106 [.val (.int .i64 n0)] (.val (sV r)) := by
  refine Fun.of_bodyQ Try.func106 rfl (by simp [Try.ntmps106]) ?_
  rw [Try.ntmps106, TT.res_106]
  refine QW.view (s' := ⟨tab [(0, .d (.val (.int .i64 n0)))], tabH [], 0, []⟩) (View.init (by rfl)) (Nat.zero_le _) ?_
  unfold gs_ref05_big at h
  refine QW.seq ?_
  refine QW.region (Nat.zero_le _) (PW.regT (by kernel_rfl) ?_)
  refine XK.st (some 2) rfl rfl (sf_assign (v := .d (.val (sV ([] : List UInt8)))) rfl rfl ?_)
  refine XK.nil (nrm ?_)
  refine QW.seq ?_
  refine QW.seq ?_
  refine QW.region (Nat.zero_le _) (PW.regT (by kernel_rfl) ?_)
  refine XK.st (some 3) rfl rfl (sf_move (v := .d (.val (.int .i64 n0))) rfl rfl ?_)
  refine XK.st (some 4) rfl rfl (sf_eq (a := n0) (b := (0 : Int)) rfl rfl rfl ?_)
  refine XK.nil (nrm ?_)
  refine QW.cond (t := (decide (n0 = (0 : Int)))) rfl (Nat.zero_le _) (fun hb1 => ?_) (fun hb1 => ?_)
  · replace h := bT h hb1
    refine QW.seq ?_
    refine QW.region (Nat.zero_le _) (PW.regT (by kernel_rfl) ?_)
    refine XK.st (some 2) rfl rfl (sf_assign (v := .d (.val (sV ([] : List UInt8)))) rfl rfl ?_)
    refine XK.nil (nrm ?_)
    refine QW.ret (Nat.zero_le _) (thR ?_)
    obtain rfl := sO h
    exact Ends.one (.inr rfl) rfl (ResIs.tmp rfl) rfl rfl
  · replace h := bF h hb1
    refine QW.skip (Nat.zero_le _) (nrm ?_)
    refine QW.seq ?_
    refine QW.region (Nat.zero_le _) (PW.regQ (id := 3) mixedX (M := _) rfl (by kernel_rfl) ?_)
    refine RQ.st (some 5) rfl rfl (sf_move (v := .d (.val (.int .i64 n0))) rfl rfl ⟨⟨rfl, rfl⟩, ?_⟩)
    obtain ⟨c2, h⟩ := gO_get h
    refine RQ.st (some 6) rfl rfl (sf_quo (a := n0) (b := (256 : Int)) rfl rfl rfl c2 ⟨⟨rfl, rfl⟩, ?_⟩)
    obtain ⟨x3, hx4, h⟩ := bO h
    refine RQ.st (some 7) rfl rfl (sf_call rfl rfl TT.enters_106 rfl (hself (n0.tdiv (256 : Int)) _ hx4) ⟨⟨rfl, rfl⟩, ?_⟩)
    refine RQ.st (some 8) rfl rfl (sf_move (v := .d (.val (.int .i64 n0))) rfl rfl ⟨⟨rfl, rfl⟩, ?_⟩)
    refine RQ.st (some 9) rfl rfl (sf_rem (a := n0) (b := (256 : Int)) rfl rfl rfl (by decide) ⟨⟨rfl, rfl⟩, ?_⟩)
    refine RQ.st (some 10) rfl rfl (sf_toU8 (n := (n0.tmod (256 : Int))) rfl TT.under_3 TT.under_5 rfl ⟨⟨rfl, rfl⟩, ?_⟩)
    refine RQ.st (some 11) rfl rfl (sf_row (en := byteD) (l := ([(u8I (n0.tmod (256 : Int)))] : List UInt8)) rfl TT.rowA_37 lay_byte rfl rfl (by decide) (by simp [solids, partsP, evP, PV.solid, putS_at, tab, unS, unT, unC, asCond, Value.oneCell']) ⟨⟨rfl, rfl⟩, ?_⟩)
    refine RQ.st (some 12) rfl rfl (sf_b2s (l := ([(u8I (n0.tmod (256 : Int)))] : List UInt8)) rfl TT.under_37 TT.under_5 TT.under_9 rfl ⟨⟨rfl, rfl⟩, ?_⟩)
    obtain ⟨c5, h⟩ := gO_get h
    refine RQ.st (some 13) rfl rfl (sf_cat (a := x3) (b := ([(u8I (n0.tmod (256 : Int)))] : List UInt8)) rfl rfl rfl c5 ⟨⟨rfl, rfl⟩, ?_⟩)
    refine RQ.st (some 2) rfl rfl (sf_assign (v := .d (.val (sV (x3 ++ ([(u8I (n0.tmod (256 : Int)))] : List UInt8))))) rfl rfl ⟨⟨rfl, rfl⟩, ?_⟩)
    refine RQ.nil (nrm ?_)
    refine QW.ret (Nat.zero_le _) ?_
    obtain rfl := sO h
    exact Ends.one (.inr rfl) rfl (ResIs.tmp rfl) rfl rfl

noncomputable def rec_ref05_big : Nat → Int → Option (List UInt8)
  | 0 => fun _ => none
  | n + 1 => fun y0 => gs_ref05_big (rec_ref05_big n) y0

theorem simr_ref05_big : ∀ (n : Nat) (y0 : Int) (rr : (List UInt8)), rec_ref05_big n y0 = some rr → Fun Try.prog 106 [.val (.int .i64 y0)] (.val (sV rr))
  | 0, _, _, h => by cases h
  | n + 1, y0, rr, h => sims_ref05_big (rec_ref05_big n) (simr_ref05_big n) y0 rr h

noncomputable def g_ref05_big (y0 : Int) : Option (List UInt8) := theR (fun n => rec_ref05_big n y0)

theorem sim_ref05_big (y0 : Int) (rr : (List UInt8)) (h : g_ref05_big y0 = some rr) : Fun Try.prog 106 [.val (.int .i64 y0)] (.val (sV rr)) := by
  obtain ⟨n, hn⟩ := theR_get h
  exact simr_ref05_big n y0 rr hn

noncomputable def g_ref05_Head (n0 : Int) (list1 : Bool) : Option (List UInt8) :=
    (((bif list1 then
    some (192)
    else
    some (128)) : Option Int).bind fun (v5 : Int) =>
    (bif (decide (n0 < (56 : Int))) then
    gO (inI (v5 + n0)) (
    some ([(u8I (v5 + n0))] : List UInt8))
    else
    ((g_ref05_big n0).bind fun (x4 : (List UInt8)) =>
    gO (inI (v5 + (55 : Int))) (
    gO (inI ((v5 + (55 : Int)) + (x4.length : Int))) (
    gO (([(u8I ((v5 + (55 : Int)) + (x4.length : Int)))] : List UInt8).length + x4.length ≤ 9223372036854775807) (
    some (([(u8I ((v5 + (55 : Int)) + (x4.length : Int)))] : List UInt8) ++ x4)))))))

set_option maxRecDepth 20000 in
set_option maxHeartbeats 4000000 in
theorem sim_ref05_Head (n0 : Int) (list1 : Bool) (r : (List UInt8)) (h : g_ref05_Head n0 list1 = some r) : Fun Try.prog 65 [.val (.int .i64 n0), .val (.bool list1)] (.val (sV r)) := by
  refine Fun.of_bodyQ Try.func65 rfl (by simp [Try.ntmps65]) ?_
  rw [Try.ntmps65, TT.res_65]
  refine QW.view (s' := ⟨tab [(0, .d (.val (.int .i64 n0))), (1, .d (.val (.bool list1)))], tabH [], 0, []⟩) (View.init (by rfl)) (Nat.zero_le _) ?_
  unfold g_ref05_Head at h
  refine QW.seq ?_
  refine QW.region (Nat.zero_le _) (PW.regT (by kernel_rfl) ?_)
  refine XK.st (some 4) rfl rfl (sf_assign (v := .d (.val (sV ([] : List UInt8)))) rfl rfl ?_)
  refine XK.nil (nrm ?_)
  refine QW.seq ?_
  refine QW.region (Nat.zero_le _) (PW.regT (by kernel_rfl) ?_)
  refine XK.st (some 5) rfl rfl (sf_assign (v := .d (.val (.int .i64 (128)))) rfl rfl ?_)
  refine XK.nil (nrm ?_)
  obtain ⟨v5, hq, h⟩ := bO h
  refine QW.seqI (fun s' => s' = ⟨tab [(0, .d (.val (.int .i64 n0))), (5, .d (.val (.int .i64 v5)))], tabH [], 0, []⟩) ?_ ?_
  · replace h := hq; clear hq
    refine QW.seq ?_
    refine QW.region (Nat.zero_le _) (PW.regT (by kernel_rfl) ?_)
    refine XK.st (some 7) rfl rfl (sf_move (v := .d (.val (.bool list1))) rfl rfl ?_)
    refine XK.nil (nrm ?_)
    refine QW.cond (t := list1) rfl (Nat.zero_le _) (fun hb1 => ?_) (fun hb1 => ?_)
    · replace h := bT h hb1
      refine QW.region (Nat.zero_le _) (PW.regT (by kernel_rfl) ?_)
      refine XK.st (some 5) rfl rfl (sf_assign (v := .d (.val (.int .i64 (192)))) rfl rfl ?_)
      refine XK.nil (nrm ?_)
      obtain rfl := sO h
      exact ⟨⟨tab [(0, .d (.val (.int .i64 n0))), (5, .d (.val (.int .i64 (192))))], tabH [], 0, []⟩, View.mk 0 [] _ _ _ rfl rfl (by decide) (And.intro (Imp.of_eq rfl) (And.intro (Imp.of_eq rfl) trivial)) trivial rfl (Nat.zero_le _) rfl, rfl⟩
    · replace h := bF h hb1
      refine QW.skip (Nat.zero_le _) (nrm ?_)
      obtain rfl := sO h
      exact ⟨⟨tab [(0, .d (.val (.int .i64 n0))), (5, .d (.val (.int .i64 (128))))], tabH [], 0, []⟩, View.mk 0 [] _ _ _ rfl rfl (by decide) (And.intro (Imp.of_eq rfl) (And.intro (Imp.of_eq rfl) trivial)) trivial rfl (Nat.zero_le _) rfl, rfl⟩
  · rintro _ rfl
    refine QW.seq ?_
    refine QW.seq ?_
    refine QW.region (Nat.zero_le _) (PW.regT (by kernel_rfl) ?_)
    refine XK.st (some 8) rfl rfl (sf_move (v := .d (.val (.int .i64 n0))) rfl rfl ?_)
    refine XK.st (some 9) rfl rfl (sf_lss (a := n0) (b := (56 : Int)) rfl rfl rfl ?_)
    refine XK.nil (nrm ?_)
    refine QW.cond (t := (decide (n0 < (56 : Int)))) rfl (Nat.zero_le _) (fun hb2 => ?_) (fun hb2 => ?_)
    · replace h := bT h hb2
      refine QW.seq ?_
      refine QW.region (Nat.zero_le _) (PW.regT (by kernel_rfl) ?_)
      refine XK.st (some 10) rfl rfl (sf_move (v := .d (.val (.int .i64 v5))) rfl rfl ?_)
      refine XK.st (some 11) rfl rfl (sf_move (v := .d (.val (.int .i64 n0))) rfl rfl ?_)
      obtain ⟨c3, h⟩ := gO_get h
      refine XK.st (some 12) rfl rfl (sf_add (a := v5) (b := n0) rfl rfl rfl c3 ?_)
      refine XK.st (some 13) rfl rfl (sf_toU8 (n := (v5 + n0)) rfl TT.under_3 TT.under_5 rfl ?_)
      refine XK.st (some 14) rfl rfl (sf_row (en := byteD) (l := ([(u8I (v5 + n0))] : List UInt8)) rfl TT.rowA_37 lay_byte rfl rfl (by decide) (by simp [solids, partsP, evP, PV.solid, putS_at, tab, unS, unT, unC, asCond, Value.oneCell']) ?_)
      refine XK.st (some 15) rfl rfl (sf_b2s (l := ([(u8I (v5 + n0))] : List UInt8)) rfl TT.under_37 TT.under_5 TT.under_9 rfl ?_)
      refine XK.st (some 4) rfl rfl (sf_assign (v := .d (.val (sV ([(u8I (v5 + n0))] : List UInt8)))) rfl rfl ?_)
      refine XK.nil (nrm ?_)
      refine QW.ret (Nat.zero_le _) (thR ?_)
      obtain rfl := sO h
      exact Ends.one (.inr rfl) rfl (ResIs.tmp rfl) rfl rfl
    · replace h := bF h hb2
      refine QW.skip (Nat.zero_le _) (nrm ?_)
      refine QW.seq ?_
      refine QW.region (Nat.zero_le _) (PW.regT (by kernel_rfl) ?_)
      refine XK.st (some 16) rfl rfl (sf_move (v := .d (.val (.int .i64 n0))) rfl rfl ?_)
      obtain ⟨x4, hx5, h⟩ := bO h
      refine XK.st (some 17) rfl rfl (sf_call rfl rfl TT.enters_106 rfl (sim_ref05_big n0 _ hx5) ?_)
      refine XK.st (some 6) rfl rfl (sf_assign (v := .d (.val (sV x4))) rfl rfl ?_)
      refine XK.nil (nrm ?_)
      refine QW.seq ?_
      refine QW.region (Nat.zero_le _) (PW.regT (by kernel_rfl) ?_)
      refine XK.st (some 18) rfl rfl (sf_move (v := .d (.val (.int .i64 v5))) rfl rfl ?_)
      obtain ⟨c6, h⟩ := gO_get h
      refine XK.st (some 19) rfl rfl (sf_add (a := v5) (b := (55 : Int)) rfl rfl rfl c6 ?_)
      refine XK.st (some 20) rfl rfl (sf_move (v := .d (.val (sV x4))) rfl rfl ?_)
      refine XK.st (some 21) rfl rfl (sf_lenS (l := x4) rfl TT.under_9 rfl ?_)
      obtain ⟨c7, h⟩ := gO_get h
      refine XK.st (some 22) rfl rfl (sf_add (a := (v5 + (55 : Int))) (b := (x4.length : Int)) rfl rfl rfl c7 ?_)
      refine XK.st (some 23) rfl rfl (sf_toU8 (n := ((v5 + (55 : Int)) + (x4.length : Int))) rfl TT.under_3 TT.under_5 rfl ?_)
      refine XK.st (some 24) rfl rfl (sf_row (en := byteD) (l := ([(u8I ((v5 + (55 : Int)) + (x4.length : Int)))] : List UInt8)) rfl TT.rowA_37 lay_byte rfl rfl (by decide) (by simp [solids, partsP, evP, PV.solid, putS_at, tab, unS, unT, unC, asCond, Value.oneCell']) ?_)
      refine XK.st (some 25) rfl rfl (sf_b2s (l := ([(u8I ((v5 + (55 : Int)) + (x4.length : Int)))] : List UInt8)) rfl TT.under_37 TT.under_5 TT.under_9 rfl ?_)
      refine XK.st (some 26) rfl rfl (sf_move (v := .d (.val (sV x4))) rfl rfl ?_)
      obtain ⟨c8, h⟩ := gO_get h
      refine XK.st (some 27) rfl rfl (sf_cat (a := ([(u8I ((v5 + (55 : Int)) + (x4.length : Int)))] : List UInt8)) (b := x4) rfl rfl rfl c8 ?_)
      refine XK.st (some 4) rfl rfl (sf_assign (v := .d (.val (sV (([(u8I ((v5 + (55 : Int)) + (x4.length : Int)))] : List UInt8) ++ x4)))) rfl rfl ?_)
      refine XK.nil (nrm ?_)
      refine QW.ret (Nat.zero_le _) ?_
      obtain rfl := sO h
      exact Ends.one (.inr rfl) rfl (ResIs.tmp rfl) rfl rfl

noncomputable def g_ref01_High (a0 : Int) (b1 : Int) : Option Int :=
    (bif (decide (b1 < a0)) then
    some a0
    else
    some b1)

set_option maxRecDepth 20000 in
set_option maxHeartbeats 4000000 in
theorem sim_ref01_High (a0 : Int) (b1 : Int) (r : Int) (h : g_ref01_High a0 b1 = some r) : Fun Try.prog 56 [.val (.int .i64 a0), .val (.int .i64 b1)] (.val (.int .i64 r)) := by
  refine Fun.of_bodyQ Try.func56 rfl (by simp [Try.ntmps56]) ?_
  rw [Try.ntmps56, TT.res_56]
  refine QW.view (s' := ⟨tab [(0, .d (.val (.int .i64 a0))), (1, .d (.val (.int .i64 b1)))], tabH [], 0, []⟩) (View.init (by rfl)) (Nat.zero_le _) ?_
  unfold g_ref01_High at h
  refine QW.seq ?_
  refine QW.region (Nat.zero_le _) (PW.regT (by kernel_rfl) ?_)
  refine XK.st (some 4) rfl rfl (sf_assign (v := .d (.val (.int .i64 (0)))) rfl rfl ?_)
  refine XK.nil (nrm ?_)
  refine QW.seq ?_
  refine QW.seq ?_
  refine QW.region (Nat.zero_le _) (PW.regT (by kernel_rfl) ?_)
  refine XK.st (some 5) rfl rfl (sf_move (v := .d (.val (.int .i64 a0))) rfl rfl ?_)
  refine XK.st (some 6) rfl rfl (sf_move (v := .d (.val (.int .i64 b1))) rfl rfl ?_)
  refine XK.st (some 7) rfl rfl (sf_gtr (a := a0) (b := b1) rfl rfl rfl ?_)
  refine XK.nil (nrm ?_)
  refine QW.cond (t := (decide (b1 < a0))) rfl (Nat.zero_le _) (fun hb1 => ?_) (fun hb1 => ?_)
  · replace h := bT h hb1
    refine QW.seq ?_
    refine QW.region (Nat.zero_le _) (PW.regT (by kernel_rfl) ?_)
    refine XK.st (some 8) rfl rfl (sf_move (v := .d (.val (.int .i64 a0))) rfl rfl ?_)
    refine XK.st (some 4) rfl rfl (sf_assign (v := .d (.val (.int .i64 a0))) rfl rfl ?_)
    refine XK.nil (nrm ?_)
    refine QW.ret (Nat.zero_le _) (thR ?_)
    obtain rfl := sO h
    exact Ends.one (.inr rfl) rfl (ResIs.tmp rfl) rfl rfl
  · replace h := bF h hb1
    refine QW.skip (Nat.zero_le _) (nrm ?_)
    refine QW.seq ?_
    refine QW.region (Nat.zero_le _) (PW.regT (by kernel_rfl) ?_)
    refine XK.st (some 9) rfl rfl (sf_move (v := .d (.val (.int .i64 b1))) rfl rfl ?_)
    refine XK.st (some 4) rfl rfl (sf_assign (v := .d (.val (.int .i64 b1))) rfl rfl ?_)
    refine XK.nil (nrm ?_)
    refine QW.ret (Nat.zero_le _) ?_
    obtain rfl := sO h
    exact Ends.one (.inr rfl) rfl (ResIs.tmp rfl) rfl rfl

noncomputable def g_ref01_Low (a0 : Int) (b1 : Int) : Option Int :=
    (bif (decide (a0 < b1)) then
    some a0
    else
    some b1)

set_option maxRecDepth 20000 in
set_option maxHeartbeats 4000000 in
theorem sim_ref01_Low (a0 : Int) (b1 : Int) (r : Int) (h : g_ref01_Low a0 b1 = some r) : Fun Try.prog 57 [.val (.int .i64 a0), .val (.int .i64 b1)] (.val (.int .i64 r)) := by
  refine Fun.of_bodyQ Try.func57 rfl (by simp [Try.ntmps57]) ?_
  rw [Try.ntmps57, TT.res_57]
  refine QW.view (s' := ⟨tab [(0, .d (.val (.int .i64 a0))), (1, .d (.val (.int .i64 b1)))], tabH [], 0, []⟩) (View.init (by rfl)) (Nat.zero_le _) ?_
  unfold g_ref01_Low at h
  refine QW.seq ?_
  refine QW.region (Nat.zero_le _) (PW.regT (by kernel_rfl) ?_)
  refine XK.st (some 4) rfl rfl (sf_assign (v := .d (.val (.int .i64 (0)))) rfl rfl ?_)
  refine XK.nil (nrm ?_)
  refine QW.seq ?_
  refine QW.seq ?_
  refine QW.region (Nat.zero_le _) (PW.regT (by kernel_rfl) ?_)
  refine XK.st (some 5) rfl rfl (sf_move (v := .d (.val (.int .i64 a0))) rfl rfl ?_)
  refine XK.st (some 6) rfl rfl (sf_move (v := .d (.val (.int .i64 b1))) rfl rfl ?_)
  refine XK.st (some 7) rfl rfl (sf_lss (a := a0) (b := b1) rfl rfl rfl ?_)
  refine XK.nil (nrm ?_)
  refine QW.cond (t := (decide (a0 < b1))) rfl (Nat.zero_le _) (fun hb1 => ?_) (fun hb1 => ?_)
  · replace h := bT h hb1
    refine QW.seq ?_
    refine QW.region (Nat.zero_le _) (PW.regT (by kernel_rfl) ?_)
    refine XK.st (some 8) rfl rfl (sf_move (v := .d (.val (.int .i64 a0))) rfl rfl ?_)
    refine XK.st (some 4) rfl rfl (sf_assign (v := .d (.val (.int .i64 a0))) rfl rfl ?_)
    refine XK.nil (nrm ?_)
    refine QW.ret (Nat.zero_le _) (thR ?_)
    obtain rfl := sO h
    exact Ends.one (.inr rfl) rfl (ResIs.tmp rfl) rfl rfl
  · replace h := bF h hb1
    refine QW.skip (Nat.zero_le _) (nrm ?_)
    refine QW.seq ?_
    refine QW.region (Nat.zero_le _) (PW.regT (by kernel_rfl) ?_)
    refine XK.st (some 9) rfl rfl (sf_move (v := .d (.val (.int .i64 b1))) rfl rfl ?_)
    refine XK.st (some 4) rfl rfl (sf_assign (v := .d (.val (.int .i64 b1))) rfl rfl ?_)
    refine XK.nil (nrm ?_)
    refine QW.ret (Nat.zero_le _) ?_
    obtain rfl := sO h
    exact Ends.one (.inr rfl) rfl (ResIs.tmp rfl) rfl rfl

inductive C_ref05_Size where
  | S
  | L1 (v4 : Int) (v5 : Int) (v6 : Int)

noncomputable def step_ref05_Size (self : Item → Option (Int × Int)) (x0 : Item) : C_ref05_Size → Option (C_ref05_Size ⊕ (Int × Int))
  | .S =>
    some (.inl (.L1 (0) (1) (0)))
  | .L1 v4 v5 v6 =>
    (bif (decide (v6 < ((x0.fL).length : Int))) then
    gO (0 ≤ v6 ∧ v6 < ((x0.fL).length : Int)) (
    ((self (idx (x0.fL) v6)).bind fun (x4 : (Int × Int)) =>
    ((g_ref01_High v4 (wI ((x4.1) + (1 : Int)))).bind fun (x6 : Int) =>
    some (.inl (.L1 x6 (wI (v5 + (x4.2))) (wI (v6 + (1 : Int))))))))
    else
    some (.inr (v4, v5)))

noncomputable def gs_ref05_Size (self : Item → Option (Int × Int)) (x0 : Item) : Option (Int × Int) := theC (step_ref05_Size self x0) .S

set_option maxRecDepth 20000 in
set_option maxHeartbeats 4000000 in
theorem sims_ref05_Size (self : Item → Option (Int × Int)) (hself : ∀ (y0 : Item) (rr : (Int × Int)), self y0 = some rr → Fun Try.prog 101 [.agg (cItem y0)] (.tuple [.val (.int .i64 (rr.1)), .val (.int .i64 (rr.2))])) (x0 : Item) (r : (Int × Int)) (h : gs_ref05_Size self x0 = some r) : Fun Try.prog 101 [.agg (cItem x0)] (.tuple [.val (.int .i64 (r.1)), .val (.int .i64 (r.2))]) := by
  refine Fun.of_bodyQ Try.func101 rfl (by simp [Try.ntmps101]) ?_
  rw [Try.ntmps101, TT.res_101]
  refine QW.view (s' := ⟨tab [(0, .d (.agg (cItem x0)))], tabH [], 0, []⟩) (View.init (by rfl)) (Nat.zero_le _) ?_
  replace h := theC_get h
  obtain ⟨_, h⟩ := h
  obtain ⟨k0, rfl, h9⟩ := run_succ h; replace h := h9; clear h9
  refine QW.seq ?_
  refine QW.region (Nat.zero_le _) (PW.regT (by kernel_rfl) ?_)
  refine XK.fz (some 1) rfl rfl (sf_boxF (ds := cItem x0) rfl rfl rfl rfl rfl ?_)
  refine XK.st (some 2) rfl rfl (sf_assign (v := .d (.val (.int .i64 (0)))) rfl rfl ?_)
  refine XK.st (some 3) rfl rfl (sf_assign (v := .d (.val (.int .i64 (0)))) rfl rfl ?_)
  refine XK.nil (nrm ?_)
  refine QW.seq ?_
  refine QW.region (Nat.zero_le _) (PW.regT (by kernel_rfl) ?_)
  refine XK.st (some 4) rfl rfl (sf_assign (v := .d (.val (.int .i64 (0)))) rfl rfl ?_)
  refine XK.nil (nrm ?_)
  refine QW.seq ?_
  refine QW.region (Nat.zero_le _) (PW.regT (by kernel_rfl) ?_)
  refine XK.st (some 5) rfl rfl (sf_assign (v := .d (.val (.int .i64 (1)))) rfl rfl ?_)
  refine XK.nil (nrm ?_)
  refine QW.seq ?_
  refine QW.seq ?_
  refine QW.region (Nat.zero_le _) (PW.regT (by kernel_rfl) ?_)
  refine XK.st (some 6) rfl rfl (sf_assign (v := .d (.val (.int .i64 (0)))) rfl rfl ?_)
  refine XK.nil (nrm ?_)
  refine QW.block ?_
  refine QW.loop (fun k σ => ∃ v4 : Int, ∃ v5 : Int, ∃ v6 : Int, k ≤ k0 ∧ run (step_ref05_Size self x0) k (.L1 v4 v5 v6) = some r ∧ σ = ⟨tab [(1, .d (.cptr (cItem x0))), (4, .d (.val (.int .i64 v4))), (5, .d (.val (.int .i64 v5))), (6, .d (.val (.int .i64 v6)))], tabH [], 0, []⟩) k0 (Nat.zero_le _) ⟨⟨tab [(1, .d (.cptr (cItem x0))), (4, .d (.val (.int .i64 (0)))), (5, .d (.val (.int .i64 (1)))), (6, .d (.val (.int .i64 (0))))], tabH [], 0, []⟩, View.mk 0 [] _ _ _ rfl rfl (by decide) (And.intro (Imp.of_eq rfl) (And.intro (Imp.of_eq rfl) (And.intro (Imp.of_eq rfl) (And.intro (Imp.of_eq rfl) trivial)))) trivial rfl (Nat.zero_le _) rfl, 0, 1, 0, Nat.le_refl _, jG h, rfl⟩ ?_
  rintro k1s _ ⟨v4, v5, v6, k1h, h, rfl⟩
  obtain ⟨k1, rfl, h9⟩ := run_succ h; replace h := h9; clear h9
  refine QW.seq ?_
  refine QW.seq ?_
  refine QW.region (Nat.zero_le _) (PW.regT (by kernel_rfl) ?_)
  refine XK.st (some 9) rfl rfl (sf_move (v := .d (.val (.int .i64 v6))) rfl rfl ?_)
  refine XK.st (some 10) rfl rfl (sf_fldC rfl TT.fldA_80_2 (by decide) rfl ?_)
  refine XK.st (some 11) rfl rfl (sf_ldC (d := .slice ((x0.fL).map eItem)) rfl TT.tyA_78 rfl (LdC.one) ?_)
  refine XK.st (some 12) rfl rfl (sf_lenL (en := eItem) (l := x0.fL) rfl TT.under_78 rfl ?_)
  refine XK.st (some 13) rfl rfl (sf_lss (a := v6) (b := ((x0.fL).length : Int)) rfl rfl rfl ?_)
  refine XK.nil (nrm ?_)
  refine QW.cond (t := (decide (v6 < ((x0.fL).length : Int)))) rfl (Nat.zero_le _) (fun hb2 => ?_) (fun hb2 => ?_)
  · replace h := bGT h hb2
    refine QW.skip (Nat.zero_le _) (nrm ?_)
    refine QW.seq ?_
    refine QW.block ?_
    refine QW.seq ?_
    refine QW.region (Nat.zero_le _) (PW.regT (by kernel_rfl) ?_)
    refine XK.st (some 17) rfl rfl (sf_fldC rfl TT.fldA_80_2 (by decide) rfl ?_)
    refine XK.st (some 18) rfl rfl (sf_ldC (d := .slice ((x0.fL).map eItem)) rfl TT.tyA_78 rfl (LdC.one) ?_)
    refine XK.st (some 19) rfl rfl (sf_move (v := .d (.val (.int .i64 v6))) rfl rfl ?_)
    obtain ⟨c3, h⟩ := gG h
    refine XK.st (some 20) rfl rfl (sf_idxA (l := x0.fL) (i := v6) rfl TT.slcA_78 lay_Item rfl rfl c3 ?_)
    refine XK.st (some 21) rfl rfl (sf_ldC (d := .agg (cItem (idx (x0.fL) v6))) rfl TT.tyA_80 rfl (⟨by simp [cItem], rfl⟩) ?_)
    obtain ⟨x4, hx5, h⟩ := bG h
    refine XK.st (some 22) rfl rfl (sf_call rfl rfl TT.enters_101 rfl (hself (idx (x0.fL) v6) _ hx5) ?_)
    refine XK.st (some 16) rfl rfl (sf_move (v := .d (.tuple [.val (.int .i64 (x4.1)), .val (.int .i64 (x4.2))])) rfl rfl ?_)
    refine XK.st (some 23) rfl rfl (sf_extract rfl rfl rfl ?_)
    refine XK.st (some 24) rfl rfl (sf_extract rfl rfl rfl ?_)
    refine XK.st (some 7) rfl rfl (sf_assign (v := .d (.val (.int .i64 (x4.1)))) rfl rfl ?_)
    refine XK.st (some 8) rfl rfl (sf_assign (v := .d (.val (.int .i64 (x4.2)))) rfl rfl ?_)
    refine XK.nil (nrm ?_)
    refine QW.seq ?_
    refine QW.region (Nat.zero_le _) (PW.regT (by kernel_rfl) ?_)
    refine XK.st (some 25) rfl rfl (sf_move (v := .d (.val (.int .i64 v4))) rfl rfl ?_)
    refine XK.st (some 26) rfl rfl (sf_move (v := .d (.val (.int .i64 (x4.1)))) rfl rfl ?_)
    refine XK.st (some 27) rfl rfl (sf_wadd (a := (x4.1)) (b := (1 : Int)) rfl rfl rfl ?_)
    obtain ⟨x6, hx7, h⟩ := bG h
    refine XK.st (some 28) rfl rfl (sf_call rfl rfl TT.enters_56 rfl (sim_ref01_High v4 (wI ((x4.1) + (1 : Int))) _ hx7) ?_)
    refine XK.st (some 4) rfl rfl (sf_assign (v := .d (.val (.int .i64 x6))) rfl rfl ?_)
    refine XK.nil (nrm ?_)
    refine QW.view (s' := ⟨tab [(1, .d (.cptr (cItem x0))), (4, .d (.val (.int .i64 x6))), (5, .d (.val (.int .i64 v5))), (6, .d (.val (.int .i64 v6))), (8, .d (.val (.int .i64 (x4.2))))], tabH [], 0, []⟩) (View.mk 0 [] _ _ _ rfl rfl (by decide) (And.intro (Imp.of_eq rfl) (And.intro (Imp.of_eq rfl) (And.intro (Imp.of_eq rfl) (And.intro (Imp.of_eq rfl) (And.intro (Imp.of_eq rfl) trivial))))) trivial rfl (Nat.zero_le _) rfl) (Nat.zero_le _) ?_
    refine QW.region (Nat.zero_le _) (PW.regT (by kernel_rfl) ?_)
    refine XK.st (some 29) rfl rfl (sf_move (v := .d (.val (.int .i64 v5))) rfl rfl ?_)
    refine XK.st (some 30) rfl rfl (sf_move (v := .d (.val (.int .i64 (x4.2)))) rfl rfl ?_)
    refine XK.st (some 31) rfl rfl (sf_wadd (a := v5) (b := (x4.2)) rfl rfl rfl ?_)
    refine XK.st (some 5) rfl rfl (sf_assign (v := .d (.val (.int .i64 (wI (v5 + (x4.2)))))) rfl rfl ?_)
    refine XK.nil (blN (nrm ?_))
    refine QW.region (Nat.zero_le _) (PW.regT (by kernel_rfl) ?_)
    refine XK.st (some 14) rfl rfl (sf_move (v := .d (.val (.int .i64 v6))) rfl rfl ?_)
    refine XK.st (some 15) rfl rfl (sf_wadd (a := v6) (b := (1 : Int)) rfl rfl rfl ?_)
    refine XK.st (some 6) rfl rfl (sf_assign (v := .d (.val (.int .i64 (wI (v6 + (1 : Int)))))) rfl rfl ?_)
    refine XK.nil (nrm ?_)
    exact ⟨k1, by omega, ⟨tab [(1, .d (.cptr (cItem x0))), (4, .d (.val (.int .i64 x6))), (5, .d (.val (.int .i64 (wI (v5 + (x4.2)))))), (6, .d (.val (.int .i64 (wI (v6 + (1 : Int))))))], tabH [], 0, []⟩, View.mk 0 [] _ _ _ rfl rfl (by decide) (And.intro (Imp.of_eq rfl) (And.intro (Imp.of_eq rfl) (And.intro (Imp.of_eq rfl) (And.intro (Imp.of_eq rfl) trivial)))) trivial rfl (Nat.zero_le _) rfl, x6, (wI (v5 + (x4.2))), (wI (v6 + (1 : Int))), by omega, jG h, rfl⟩
  · replace h := bGF h hb2
    refine QW.exit (Nat.zero_le _) (thX (thX (exE (nrm ?_))))
    refine QW.seq ?_
    refine QW.region (Nat.zero_le _) (PW.regT (by kernel_rfl) ?_)
    refine XK.st (some 32) rfl rfl (sf_move (v := .d (.val (.int .i64 v4))) rfl rfl ?_)
    refine XK.st (some 33) rfl rfl (sf_move (v := .d (.val (.int .i64 v5))) rfl rfl ?_)
    refine XK.st (some 2) rfl rfl (sf_assign (v := .d (.val (.int .i64 v4))) rfl rfl ?_)
    refine XK.st (some 3) rfl rfl (sf_assign (v := .d (.val (.int .i64 v5))) rfl rfl ?_)
    refine XK.nil (nrm ?_)
    refine QW.ret (Nat.zero_le _) ?_
    obtain rfl := sG h
    exact Ends.more (.inr rfl) rfl (ps := [.d (.val (.int .i64 v4)), .d (.val (.int .i64 v5))]) (And.intro (ResIs.tmp rfl) (And.intro (ResIs.tmp rfl) trivial)) rfl rfl

noncomputable def rec_ref05_Size : Nat → Item → Option (Int × Int)
  | 0 => fun _ => none
  | n + 1 => fun y0 => gs_ref05_Size (rec_ref05_Size n) y0

theorem simr_ref05_Size : ∀ (n : Nat) (y0 : Item) (rr : (Int × Int)), rec_ref05_Size n y0 = some rr → Fun Try.prog 101 [.agg (cItem y0)] (.tuple [.val (.int .i64 (rr.1)), .val (.int .i64 (rr.2))])
  | 0, _, _, h => by cases h
  | n + 1, y0, rr, h => sims_ref05_Size (rec_ref05_Size n) (simr_ref05_Size n) y0 rr h

noncomputable def g_ref05_Size (y0 : Item) : Option (Int × Int) := theR (fun n => rec_ref05_Size n y0)

theorem sim_ref05_Size (y0 : Item) (rr : (Int × Int)) (h : g_ref05_Size y0 = some rr) : Fun Try.prog 101 [.agg (cItem y0)] (.tuple [.val (.int .i64 (rr.1)), .val (.int .i64 (rr.2))]) := by
  obtain ⟨n, hn⟩ := theR_get h
  exact simr_ref05_Size n y0 rr hn

inductive C_ref05_Same where
  | S
  | L1 (v5 : Int)

noncomputable def step_ref05_Same (self : Item → Item → Option Bool) (a0 : Item) (b1 : Item) : C_ref05_Same → Option (C_ref05_Same ⊕ Bool)
  | .S =>
    (bif (((!(a0.fList == b1.fList)) || (!(a0.fS == b1.fS))) || (!decide (((a0.fL).length : Int) = ((b1.fL).length : Int)))) then
    some (.inr false)
    else
    some (.inl (.L1 (0))))
  | .L1 v5 =>
    (bif (decide (v5 < ((a0.fL).length : Int))) then
    gO (0 ≤ v5 ∧ v5 < ((a0.fL).length : Int)) (
    gO (0 ≤ v5 ∧ v5 < ((b1.fL).length : Int)) (
    ((self (idx (a0.fL) v5) (idx (b1.fL) v5)).bind fun (x6 : Bool) =>
    (bif (!x6) then
    some (.inr false)
    else
    gO (inI (v5 + (1 : Int))) (
    some (.inl (.L1 (v5 + (1 : Int)))))))))
    else
    some (.inr true))

noncomputable def gs_ref05_Same (self : Item → Item → Option Bool) (a0 : Item) (b1 : Item) : Option Bool := theC (step_ref05_Same self a0 b1) .S

set_option maxRecDepth 20000 in
set_option maxHeartbeats 4000000 in
theorem sims_ref05_Same (self : Item → Item → Option Bool) (hself : ∀ (y0 : Item) (y1 : Item) (rr : Bool), self y0 y1 = some rr → Fun Try.prog 67 [.agg (cItem y0), .agg (cItem y1)] (.val (.bool rr))) (a0 : Item) (b1 : Item) (r : Bool) (h : gs_ref05_Same self a0 b1 = some r) : Fun Try.prog 67 [.agg (cItem a0), .agg (cItem b1)] (.val (.bool r)) := by
  refine Fun.of_bodyQ Try.func67 rfl (by simp [Try.ntmps67]) ?_
  rw [Try.ntmps67, TT.res_67]
  refine QW.view (s' := ⟨tab [(0, .d (.agg (cItem a0))), (1, .d (.agg (cItem b1)))], tabH [], 0, []⟩) (View.init (by rfl)) (Nat.zero_le _) ?_
  replace h := theC_get h
  obtain ⟨_, h⟩ := h
  obtain ⟨k0, rfl, h9⟩ := run_succ h; replace h := h9; clear h9
  refine QW.seq ?_
  refine QW.region (Nat.zero_le _) (PW.regT (by kernel_rfl) ?_)
  refine XK.fz (some 2) rfl rfl (sf_boxF (ds := cItem a0) rfl rfl rfl rfl rfl ?_)
  refine XK.fz (some 3) rfl rfl (sf_boxF (ds := cItem b1) rfl rfl rfl rfl rfl ?_)
  refine XK.st (some 4) rfl rfl (sf_assign (v := .d (.val (.bool false))) rfl rfl ?_)
  refine XK.nil (nrm ?_)
  refine QW.seq ?_
  refine QW.seq ?_
  refine QW.region (Nat.zero_le _) (PW.regT (by kernel_rfl) ?_)
  refine XK.st (some 6) rfl rfl (sf_fldC rfl TT.fldA_80_0 (by decide) rfl ?_)
  refine XK.st (some 7) rfl rfl (sf_ldC (d := .val (.bool (a0.fList))) rfl TT.tyA_4 rfl (LdC.one) ?_)
  refine XK.st (some 8) rfl rfl (sf_fldC rfl TT.fldA_80_0 (by decide) rfl ?_)
  refine XK.st (some 9) rfl rfl (sf_ldC (d := .val (.bool (b1.fList))) rfl TT.tyA_4 rfl (LdC.one) ?_)
  refine XK.st (some 10) rfl rfl (sf_bne (a := a0.fList) (b := b1.fList) rfl TT.under_4 rfl rfl ?_)
  refine XK.st (some 11) rfl rfl (sf_move (v := .d (.val (.bool (!(a0.fList == b1.fList))))) rfl rfl ?_)
  refine XK.gd (v := .d (.cptr ((cItem a0).drop 1))) (T := []) (some 12) rfl rfl (by repeat (first | exact trivial | refine And.intro (fun hg => by first | rfl | exact hg | exact (Bool.and_eq_true_iff.mp hg).1 | exact (Bool.and_eq_true_iff.mp (Bool.and_eq_true_iff.mp hg).1).1) ?_)) (fun hg => sf_fldC rfl TT.fldA_80_1 (by decide) rfl ⟨⟨rfl, rfl, rfl⟩, rfl, Imp.refl⟩) (fun _ _ hi => nomatch hi) ?_
  refine XK.gd (v := .d (.val (sV (a0.fS)))) (T := []) (some 13) rfl rfl (by repeat (first | exact trivial | refine And.intro (fun hg => by first | rfl | exact hg | exact (Bool.and_eq_true_iff.mp hg).1 | exact (Bool.and_eq_true_iff.mp (Bool.and_eq_true_iff.mp hg).1).1) ?_)) (fun hg => sf_ldC (d := .val (sV (a0.fS))) rfl TT.tyA_9 rfl (LdC.one) ⟨⟨rfl, rfl, rfl⟩, rfl, Imp.refl⟩) (fun _ _ hi => nomatch hi) ?_
  refine XK.gd (v := .d (.cptr ((cItem b1).drop 1))) (T := []) (some 14) rfl rfl (by repeat (first | exact trivial | refine And.intro (fun hg => by first | rfl | exact hg | exact (Bool.and_eq_true_iff.mp hg).1 | exact (Bool.and_eq_true_iff.mp (Bool.and_eq_true_iff.mp hg).1).1) ?_)) (fun hg => sf_fldC rfl TT.fldA_80_1 (by decide) rfl ⟨⟨rfl, rfl, rfl⟩, rfl, Imp.refl⟩) (fun _ _ hi => nomatch hi) ?_
  refine XK.gd (v := .d (.val (sV (b1.fS)))) (T := []) (some 15) rfl rfl (by repeat (first | exact trivial | refine And.intro (fun hg => by first | rfl | exact hg | exact (Bool.and_eq_true_iff.mp hg).1 | exact (Bool.and_eq_true_iff.mp (Bool.and_eq_true_iff.mp hg).1).1) ?_)) (fun hg => sf_ldC (d := .val (sV (b1.fS))) rfl TT.tyA_9 rfl (LdC.one) ⟨⟨rfl, rfl, rfl⟩, rfl, Imp.refl⟩) (fun _ _ hi => nomatch hi) ?_
  refine XK.gd (v := .d (.val (.bool (!(a0.fS == b1.fS))))) (T := []) (some 16) rfl rfl (by repeat (first | exact trivial | refine And.intro (fun hg => by first | rfl | exact hg | exact (Bool.and_eq_true_iff.mp hg).1 | exact (Bool.and_eq_true_iff.mp (Bool.and_eq_true_iff.mp hg).1).1) ?_)) (fun hg => sf_sne (a := a0.fS) (b := b1.fS) rfl rfl rfl ⟨⟨rfl, rfl, rfl⟩, rfl, Imp.refl⟩) (fun _ _ hi => nomatch hi) ?_
  refine XK.st (some 17) rfl rfl (sf_pickO rfl rfl rfl rfl (fun _ => rfl) (fun hb => by rw [hb]; rfl) ?_)
  refine XK.st (some 18) rfl rfl (sf_move (v := .d (.val (.bool ((!(a0.fList == b1.fList)) || (!(a0.fS == b1.fS)))))) rfl rfl ?_)
  refine XK.gd (v := .d (.cptr ((cItem a0).drop 2))) (T := []) (some 19) rfl rfl (by repeat (first | exact trivial | refine And.intro (fun hg => by first | rfl | exact hg | exact (Bool.and_eq_true_iff.mp hg).1 | exact (Bool.and_eq_true_iff.mp (Bool.and_eq_true_iff.mp hg).1).1) ?_)) (fun hg => sf_fldC rfl TT.fldA_80_2 (by decide) rfl ⟨⟨rfl, rfl, rfl⟩, rfl, Imp.refl⟩) (fun _ _ hi => nomatch hi) ?_
  refine XK.gd (v := .d (.slice ((a0.fL).map eItem))) (T := []) (some 20) rfl rfl (by repeat (first | exact trivial | refine And.intro (fun hg => by first | rfl | exact hg | exact (Bool.and_eq_true_iff.mp hg).1 | exact (Bool.and_eq_true_iff.mp (Bool.and_eq_true_iff.mp hg).1).1) ?_)) (fun hg => sf_ldC (d := .slice ((a0.fL).map eItem)) rfl TT.tyA_78 rfl (LdC.one) ⟨⟨rfl, rfl, rfl⟩, rfl, Imp.refl⟩) (fun _ _ hi => nomatch hi) ?_
  refine XK.gd (v := .d (.val (.int .i64 ((a0.fL).length : Int)))) (T := []) (some 21) rfl rfl (by repeat (first | exact trivial | refine And.intro (fun hg => by first | rfl | exact hg | exact (Bool.and_eq_true_iff.mp hg).1 | exact (Bool.and_eq_true_iff.mp (Bool.and_eq_true_iff.mp hg).1).1) ?_)) (fun hg => sf_lenL (en := eItem) (l := a0.fL) rfl TT.under_78 rfl ⟨⟨rfl, rfl, rfl⟩, rfl, Imp.refl⟩) (fun _ _ hi => nomatch hi) ?_
  refine XK.gd (v := .d (.cptr ((cItem b1).drop 2))) (T := []) (some 22) rfl rfl (by repeat (first | exact trivial | refine And.intro (fun hg => by first | rfl | exact hg | exact (Bool.and_eq_true_iff.mp hg).1 | exact (Bool.and_eq_true_iff.mp (Bool.and_eq_true_iff.mp hg).1).1) ?_)) (fun hg => sf_fldC rfl TT.fldA_80_2 (by decide) rfl ⟨⟨rfl, rfl, rfl⟩, rfl, Imp.refl⟩) (fun _ _ hi => nomatch hi) ?_
  refine XK.gd (v := .d (.slice ((b1.fL).map eItem))) (T := []) (some 23) rfl rfl (by repeat (first | exact trivial | refine And.intro (fun hg => by first | rfl | exact hg | exact (Bool.and_eq_true_iff.mp hg).1 | exact (Bool.and_eq_true_iff.mp (Bool.and_eq_true_iff.mp hg).1).1) ?_)) (fun hg => sf_ldC (d := .slice ((b1.fL).map eItem)) rfl TT.tyA_78 rfl (LdC.one) ⟨⟨rfl, rfl, rfl⟩, rfl, Imp.refl⟩) (fun _ _ hi => nomatch hi) ?_
  refine XK.gd (v := .d (.val (.int .i64 ((b1.fL).length : Int)))) (T := []) (some 24) rfl rfl (by repeat (first | exact trivial | refine And.intro (fun hg => by first | rfl | exact hg | exact (Bool.and_eq_true_iff.mp hg).1 | exact (Bool.and_eq_true_iff.mp (Bool.and_eq_true_iff.mp hg).1).1) ?_)) (fun hg => sf_lenL (en := eItem) (l := b1.fL) rfl TT.under_78 rfl ⟨⟨rfl, rfl, rfl⟩, rfl, Imp.refl⟩) (fun _ _ hi => nomatch hi) ?_
  refine XK.gd (v := .d (.val (.bool (!decide (((a0.fL).length : Int) = ((b1.fL).length : Int)))))) (T := []) (some 25) rfl rfl (by repeat (first | exact trivial | refine And.intro (fun hg => by first | rfl | exact hg | exact (Bool.and_eq_true_iff.mp hg).1 | exact (Bool.and_eq_true_iff.mp (Bool.and_eq_true_iff.mp hg).1).1) ?_)) (fun hg => sf_ne (a := ((a0.fL).length : Int)) (b := ((b1.fL).length : Int)) rfl rfl rfl ⟨⟨rfl, rfl, rfl⟩, rfl, Imp.refl⟩) (fun _ _ hi => nomatch hi) ?_
  refine XK.st (some 26) rfl rfl (sf_pickO rfl rfl rfl rfl (fun _ => rfl) (fun hb => by rw [hb]; rfl) ?_)
  refine XK.nil (nrm ?_)
  refine QW.cond (t := (((!(a0.fList == b1.fList)) || (!(a0.fS == b1.fS))) || (!decide (((a0.fL).length : Int) = ((b1.fL).length : Int))))) rfl (Nat.zero_le _) (fun hb1 => ?_) (fun hb1 => ?_)
  · replace h := bGT h hb1
    refine QW.seq ?_
    refine QW.region (Nat.zero_le _) (PW.regT (by kernel_rfl) ?_)
    refine XK.st (some 4) rfl rfl (sf_assign (v := .d (.val (.bool false))) rfl rfl ?_)
    refine XK.nil (nrm ?_)
    refine QW.ret (Nat.zero_le _) (thR ?_)
    obtain rfl := sG h
    exact Ends.one (.inr rfl) rfl (ResIs.tmp rfl) rfl rfl
  · replace h := bGF h hb1
    refine QW.skip (Nat.zero_le _) (nrm ?_)
    refine QW.seq ?_
    refine QW.seq ?_
    refine QW.region (Nat.zero_le _) (PW.regT (by kernel_rfl) ?_)
    refine XK.st (some 5) rfl rfl (sf_assign (v := .d (.val (.int .i64 (0)))) rfl rfl ?_)
    refine XK.nil (nrm ?_)
    refine QW.block ?_
    refine QW.loop (fun k σ => ∃ v5 : Int, k ≤ k0 ∧ run (step_ref05_Same self a0 b1) k (.L1 v5) = some r ∧ σ = ⟨tab [(2, .d (.cptr (cItem a0))), (3, .d (.cptr (cItem b1))), (5, .d (.val (.int .i64 v5)))], tabH [], 0, []⟩) k0 (Nat.zero_le _) ⟨⟨tab [(2, .d (.cptr (cItem a0))), (3, .d (.cptr (cItem b1))), (5, .d (.val (.int .i64 (0))))], tabH [], 0, []⟩, View.mk 0 [] _ _ _ rfl rfl (by decide) (And.intro (Imp.of_eq rfl) (And.intro (Imp.of_eq rfl) (And.intro (Imp.of_eq rfl) trivial))) trivial rfl (Nat.zero_le _) rfl, 0, Nat.le_refl _, jG h, rfl⟩ ?_
    rintro k2s _ ⟨v5, k2h, h, rfl⟩
    obtain ⟨k2, rfl, h9⟩ := run_succ h; replace h := h9; clear h9
    refine QW.seq ?_
    refine QW.seq ?_
    refine QW.region (Nat.zero_le _) (PW.regT (by kernel_rfl) ?_)
    refine XK.st (some 27) rfl rfl (sf_move (v := .d (.val (.int .i64 v5))) rfl rfl ?_)
    refine XK.st (some 28) rfl rfl (sf_fldC rfl TT.fldA_80_2 (by decide) rfl ?_)
    refine XK.st (some 29) rfl rfl (sf_ldC (d := .slice ((a0.fL).map eItem)) rfl TT.tyA_78 rfl (LdC.one) ?_)
    refine XK.st (some 30) rfl rfl (sf_lenL (en := eItem) (l := a0.fL) rfl TT.under_78 rfl ?_)
    refine XK.st (some 31) rfl rfl (sf_lss (a := v5) (b := ((a0.fL).length : Int)) rfl rfl rfl ?_)
    refine XK.nil (nrm ?_)
    refine QW.cond (t := (decide (v5 < ((a0.fL).length : Int)))) rfl (Nat.zero_le _) (fun hb3 => ?_) (fun hb3 => ?_)
    · replace h := bGT h hb3
      refine QW.skip (Nat.zero_le _) (nrm ?_)
      refine QW.seq ?_
      refine QW.block ?_
      refine QW.seq ?_
      refine QW.region (Nat.zero_le _) (PW.regQ (id := 6) mixedX (M := _) rfl (by kernel_rfl) ?_)
      refine RQ.st (some 34) rfl rfl (sf_fldC rfl TT.fldA_80_2 (by decide) rfl ⟨⟨rfl, rfl⟩, ?_⟩)
      refine RQ.st (some 35) rfl rfl (sf_ldC (d := .slice ((a0.fL).map eItem)) rfl TT.tyA_78 rfl (LdC.one) ⟨⟨rfl, rfl⟩, ?_⟩)
      refine RQ.st (some 36) rfl rfl (sf_move (v := .d (.val (.int .i64 v5))) rfl rfl ⟨⟨rfl, rfl⟩, ?_⟩)
      obtain ⟨c4, h⟩ := gG h
      refine RQ.st (some 37) rfl rfl (sf_idxA (l := a0.fL) (i := v5) rfl TT.slcA_78 lay_Item rfl rfl c4 ⟨⟨rfl, rfl⟩, ?_⟩)
      refine RQ.st (some 38) rfl rfl (sf_ldC (d := .agg (cItem (idx (a0.fL) v5))) rfl TT.tyA_80 rfl (⟨by simp [cItem], rfl⟩) ⟨⟨rfl, rfl⟩, ?_⟩)
      refine RQ.st (some 39) rfl rfl (sf_fldC rfl TT.fldA_80_2 (by decide) rfl ⟨⟨rfl, rfl⟩, ?_⟩)
      refine RQ.st (some 40) rfl rfl (sf_ldC (d := .slice ((b1.fL).map eItem)) rfl TT.tyA_78 rfl (LdC.one) ⟨⟨rfl, rfl⟩, ?_⟩)
      refine RQ.st (some 41) rfl rfl (sf_move (v := .d (.val (.int .i64 v5))) rfl rfl ⟨⟨rfl, rfl⟩, ?_⟩)
      obtain ⟨c5, h⟩ := gG h
      refine RQ.st (some 42) rfl rfl (sf_idxA (l := b1.fL) (i := v5) rfl TT.slcA_78 lay_Item rfl rfl c5 ⟨⟨rfl, rfl⟩, ?_⟩)
      refine RQ.st (some 43) rfl rfl (sf_ldC (d := .agg (cItem (idx (b1.fL) v5))) rfl TT.tyA_80 rfl (⟨by simp [cItem], rfl⟩) ⟨⟨rfl, rfl⟩, ?_⟩)
      obtain ⟨x6, hx7, h⟩ := bG h
      refine RQ.st (some 44) rfl rfl (sf_call rfl rfl TT.enters_67 rfl (hself (idx (a0.fL) v5) (idx (b1.fL) v5) _ hx7) ⟨⟨rfl, rfl⟩, ?_⟩)
      refine RQ.st (some 45) rfl rfl (sf_not rfl rfl ⟨⟨rfl, rfl⟩, ?_⟩)
      refine RQ.nil (nrm ?_)
      refine QW.cond (t := (!x6)) rfl (Nat.zero_le _) (fun hb8 => ?_) (fun hb8 => ?_)
      · replace h := bGT h hb8
        refine QW.seq ?_
        refine QW.region (Nat.zero_le _) (PW.regT (by kernel_rfl) ?_)
        refine XK.st (some 4) rfl rfl (sf_assign (v := .d (.val (.bool false))) rfl rfl ?_)
        refine XK.nil (nrm ?_)
        refine QW.ret (Nat.zero_le _) (blR (thR (thR (blR (thR ?_)))))
        obtain rfl := sG h
        exact Ends.one (.inr rfl) rfl (ResIs.tmp rfl) rfl rfl
      · replace h := bGF h hb8
        refine QW.skip (Nat.zero_le _) (blN (nrm ?_))
        refine QW.region (Nat.zero_le _) (PW.regT (by kernel_rfl) ?_)
        refine XK.st (some 32) rfl rfl (sf_move (v := .d (.val (.int .i64 v5))) rfl rfl ?_)
        obtain ⟨c9, h⟩ := gG h
        refine XK.st (some 33) rfl rfl (sf_add (a := v5) (b := (1 : Int)) rfl rfl rfl c9 ?_)
        refine XK.st (some 5) rfl rfl (sf_assign (v := .d (.val (.int .i64 (v5 + (1 : Int))))) rfl rfl ?_)
        refine XK.nil (nrm ?_)
        exact ⟨k2, by omega, ⟨tab [(2, .d (.cptr (cItem a0))), (3, .d (.cptr (cItem b1))), (5, .d (.val (.int .i64 (v5 + (1 : Int)))))], tabH [], 0, []⟩, View.mk 0 [] _ _ _ rfl rfl (by decide) (And.intro (Imp.of_eq rfl) (And.intro (Imp.of_eq rfl) (And.intro (Imp.of_eq rfl) trivial))) trivial rfl (Nat.zero_le _) rfl, (v5 + (1 : Int)), by omega, jG h, rfl⟩
    · replace h := bGF h hb3
      refine QW.exit (Nat.zero_le _) (thX (thX (exE (nrm ?_))))
      refine QW.seq ?_
      refine QW.region (Nat.zero_le _) (PW.regT (by kernel_rfl) ?_)
      refine XK.st (some 4) rfl rfl (sf_assign (v := .d (.val (.bool true))) rfl rfl ?_)
      refine XK.nil (nrm ?_)
      refine QW.ret (Nat.zero_le _) ?_
      obtain rfl := sG h
      exact Ends.one (.inr rfl) rfl (ResIs.tmp rfl) rfl rfl

noncomputable def rec_ref05_Same : Nat → Item → Item → Option Bool
  | 0 => fun _ _ => none
  | n + 1 => fun y0 y1 => gs_ref05_Same (rec_ref05_Same n) y0 y1

theorem simr_ref05_Same : ∀ (n : Nat) (y0 : Item) (y1 : Item) (rr : Bool), rec_ref05_Same n y0 y1 = some rr → Fun Try.prog 67 [.agg (cItem y0), .agg (cItem y1)] (.val (.bool rr))
  | 0, _, _, _, h => by cases h
  | n + 1, y0, y1, rr, h => sims_ref05_Same (rec_ref05_Same n) (simr_ref05_Same n) y0 y1 rr h

noncomputable def g_ref05_Same (y0 : Item) (y1 : Item) : Option Bool := theR (fun n => rec_ref05_Same n y0 y1)

theorem sim_ref05_Same (y0 : Item) (y1 : Item) (rr : Bool) (h : g_ref05_Same y0 y1 = some rr) : Fun Try.prog 67 [.agg (cItem y0), .agg (cItem y1)] (.val (.bool rr)) := by
  obtain ⟨n, hn⟩ := theR_get h
  exact simr_ref05_Same n y0 y1 rr hn

inductive C_ref05_Put where
  | S
  | L1 (v3 : (List UInt8)) (v4 : Int)

noncomputable def step_ref05_Put (self : Item → Option (List UInt8)) (x0 : Item) : C_ref05_Put → Option (C_ref05_Put ⊕ (List UInt8))
  | .S =>
    (bif (!(x0).fList) then
    gO ((decide (((x0.fS).length : Int) = (1 : Int))) = true → 0 ≤ (0 : Int) ∧ (0 : Int) < ((x0.fS).length : Int)) (
    (bif ((decide (((x0.fS).length : Int) = (1 : Int))) && (decide (((idx (x0.fS) (0 : Int)).toNat : Int) ≤ (127 : Int)))) then
    some (.inr (x0.fS))
    else
    ((g_ref05_Head ((x0.fS).length : Int) false).bind fun (x4 : (List UInt8)) =>
    gO (x4.length + (x0.fS).length ≤ 9223372036854775807) (
    some (.inr (x4 ++ x0.fS))))))
    else
    some (.inl (.L1 ([] : List UInt8) (0))))
  | .L1 v3 v4 =>
    (bif (decide (v4 < ((x0.fL).length : Int))) then
    gO (0 ≤ v4 ∧ v4 < ((x0.fL).length : Int)) (
    ((self (idx (x0.fL) v4)).bind fun (x10 : (List UInt8)) =>
    gO (v3.length + x10.length ≤ 9223372036854775807) (
    gO (inI (v4 + (1 : Int))) (
    some (.inl (.L1 (v3 ++ x10) (v4 + (1 : Int))))))))
    else
    ((g_ref05_Head (v3.length : Int) true).bind fun (x14 : (List UInt8)) =>
    gO (x14.length + v3.length ≤ 9223372036854775807) (
    some (.inr (x14 ++ v3)))))

noncomputable def gs_ref05_Put (self : Item → Option (List UInt8)) (x0 : Item) : Option (List UInt8) := theC (step_ref05_Put self x0) .S

set_option maxRecDepth 20000 in
set_option maxHeartbeats 4000000 in
theorem sims_ref05_Put (self : Item → Option (List UInt8)) (hself : ∀ (y0 : Item) (rr : (List UInt8)), self y0 = some rr → Fun Try.prog 79 [.agg (cItem y0)] (.val (sV rr))) (x0 : Item) (r : (List UInt8)) (h : gs_ref05_Put self x0 = some r) : Fun Try.prog 79 [.agg (cItem x0)] (.val (sV r)) := by
  refine Fun.of_bodyQ Try.func79 rfl (by simp [Try.ntmps79]) ?_
  rw [Try.ntmps79, TT.res_79]
  refine QW.view (s' := ⟨tab [(0, .d (.agg (cItem x0)))], tabH [], 0, []⟩) (View.init (by rfl)) (Nat.zero_le _) ?_
  replace h := theC_get h
  obtain ⟨_, h⟩ := h
  obtain ⟨k0, rfl, h9⟩ := run_succ h; replace h := h9; clear h9
  refine QW.seq ?_
  refine QW.region (Nat.zero_le _) (PW.regT (by kernel_rfl) ?_)
  refine XK.fz (some 1) rfl rfl (sf_boxF (ds := cItem x0) rfl rfl rfl rfl rfl ?_)
  refine XK.st (some 2) rfl rfl (sf_assign (v := .d (.val (sV ([] : List UInt8)))) rfl rfl ?_)
  refine XK.nil (nrm ?_)
  refine QW.seq ?_
  refine QW.seq ?_
  refine QW.region (Nat.zero_le _) (PW.regT (by kernel_rfl) ?_)
  refine XK.st (some 5) rfl rfl (sf_fldC rfl TT.fldA_80_0 (by decide) rfl ?_)
  refine XK.st (some 6) rfl rfl (sf_ldC (d := .val (.bool (x0.fList))) rfl TT.tyA_4 rfl (LdC.one) ?_)
  refine XK.st (some 7) rfl rfl (sf_not rfl rfl ?_)
  refine XK.nil (nrm ?_)
  refine QW.cond (t := (!(x0).fList)) rfl (Nat.zero_le _) (fun hb1 => ?_) (fun hb1 => ?_)
  · replace h := bGT h hb1
    refine QW.seq ?_
    refine QW.seq ?_
    refine QW.region (Nat.zero_le _) (PW.regT (by kernel_rfl) ?_)
    refine XK.st (some 8) rfl rfl (sf_fldC rfl TT.fldA_80_1 (by decide) rfl ?_)
    refine XK.st (some 9) rfl rfl (sf_ldC (d := .val (sV (x0.fS))) rfl TT.tyA_9 rfl (LdC.one) ?_)
    refine XK.st (some 10) rfl rfl (sf_lenS (l := x0.fS) rfl TT.under_9 rfl ?_)
    refine XK.st (some 11) rfl rfl (sf_eq (a := ((x0.fS).length : Int)) (b := (1 : Int)) rfl rfl rfl ?_)
    refine XK.st (some 12) rfl rfl (sf_move (v := .d (.val (.bool (decide (((x0.fS).length : Int) = (1 : Int)))))) rfl rfl ?_)
    refine XK.gd (v := .d (.cptr ((cItem x0).drop 1))) (T := []) (some 13) rfl rfl (by repeat (first | exact trivial | refine And.intro (fun hg => by first | rfl | exact hg | exact (Bool.and_eq_true_iff.mp hg).1 | exact (Bool.and_eq_true_iff.mp (Bool.and_eq_true_iff.mp hg).1).1) ?_)) (fun hg => sf_fldC rfl TT.fldA_80_1 (by decide) rfl ⟨⟨rfl, rfl, rfl⟩, rfl, Imp.refl⟩) (fun _ _ hi => nomatch hi) ?_
    refine XK.gd (v := .d (.val (sV (x0.fS)))) (T := []) (some 14) rfl rfl (by repeat (first | exact trivial | refine And.intro (fun hg => by first | rfl | exact hg | exact (Bool.and_eq_true_iff.mp hg).1 | exact (Bool.and_eq_true_iff.mp (Bool.and_eq_true_iff.mp hg).1).1) ?_)) (fun hg => sf_ldC (d := .val (sV (x0.fS))) rfl TT.tyA_9 rfl (LdC.one) ⟨⟨rfl, rfl, rfl⟩, rfl, Imp.refl⟩) (fun _ _ hi => nomatch hi) ?_
    obtain ⟨c2, h⟩ := gG h
    refine XK.gd (v := .d (.val (.int .u8 ((idx (x0.fS) (0 : Int)).toNat : Int)))) (T := []) (some 15) rfl rfl (by repeat (first | exact trivial | refine And.intro (fun hg => by first | rfl | exact hg | exact (Bool.and_eq_true_iff.mp hg).1 | exact (Bool.and_eq_true_iff.mp (Bool.and_eq_true_iff.mp hg).1).1) ?_)) (fun hg => sf_idxS (l := x0.fS) (i := (0 : Int)) rfl TT.under_9 TT.arrA_9 rfl rfl (c2 (eqB hg)) ⟨⟨rfl, rfl, rfl⟩, rfl, Imp.refl⟩) (fun _ _ hi => nomatch hi) ?_
    refine XK.gd (v := .d (.val (.bool (decide (((idx (x0.fS) (0 : Int)).toNat : Int) ≤ (127 : Int)))))) (T := []) (some 16) rfl rfl (by repeat (first | exact trivial | refine And.intro (fun hg => by first | rfl | exact hg | exact (Bool.and_eq_true_iff.mp hg).1 | exact (Bool.and_eq_true_iff.mp (Bool.and_eq_true_iff.mp hg).1).1) ?_)) (fun hg => sf_leq (a := ((idx (x0.fS) (0 : Int)).toNat : Int)) (b := (127 : Int)) rfl rfl rfl ⟨⟨rfl, rfl, rfl⟩, rfl, Imp.refl⟩) (fun _ _ hi => nomatch hi) ?_
    refine XK.st (some 17) rfl rfl (sf_pickA rfl rfl rfl rfl (fun hb => by rw [hb]; rfl) (fun _ => rfl) ?_)
    refine XK.nil (nrm ?_)
    refine QW.cond (t := ((decide (((x0.fS).length : Int) = (1 : Int))) && (decide (((idx (x0.fS) (0 : Int)).toNat : Int) ≤ (127 : Int))))) rfl (Nat.zero_le _) (fun hb3 => ?_) (fun hb3 => ?_)
    · replace h := bGT h hb3
      refine QW.seq ?_
      refine QW.region (Nat.zero_le _) (PW.regT (by kernel_rfl) ?_)
      refine XK.st (some 18) rfl rfl (sf_fldC rfl TT.fldA_80_1 (by decide) rfl ?_)
      refine XK.st (some 19) rfl rfl (sf_ldC (d := .val (sV (x0.fS))) rfl TT.tyA_9 rfl (LdC.one) ?_)
      refine XK.st (some 2) rfl rfl (sf_assign (v := .d (.val (sV (x0.fS)))) rfl rfl ?_)
      refine XK.nil (nrm ?_)
      refine QW.ret (Nat.zero_le _) (thR (thR ?_))
      obtain rfl := sG h
      exact Ends.one (.inr rfl) rfl (ResIs.tmp rfl) rfl rfl
    · replace h := bGF h hb3
      refine QW.skip (Nat.zero_le _) (nrm ?_)
      refine QW.seq ?_
      refine QW.region (Nat.zero_le _) (PW.regQ (id := 4) mixedX (M := _) rfl (by kernel_rfl) ?_)
      refine RQ.st (some 20) rfl rfl (sf_fldC rfl TT.fldA_80_1 (by decide) rfl ⟨⟨rfl, rfl⟩, ?_⟩)
      refine RQ.st (some 21) rfl rfl (sf_ldC (d := .val (sV (x0.fS))) rfl TT.tyA_9 rfl (LdC.one) ⟨⟨rfl, rfl⟩, ?_⟩)
      refine RQ.st (some 22) rfl rfl (sf_lenS (l := x0.fS) rfl TT.under_9 rfl ⟨⟨rfl, rfl⟩, ?_⟩)
      obtain ⟨x4, hx5, h⟩ := bG h
      refine RQ.st (some 23) rfl rfl (sf_call rfl rfl TT.enters_65 rfl (sim_ref05_Head ((x0.fS).length : Int) false _ hx5) ⟨⟨rfl, rfl⟩, ?_⟩)
      refine RQ.st (some 24) rfl rfl (sf_fldC rfl TT.fldA_80_1 (by decide) rfl ⟨⟨rfl, rfl⟩, ?_⟩)
      refine RQ.st (some 25) rfl rfl (sf_ldC (d := .val (sV (x0.fS))) rfl TT.tyA_9 rfl (LdC.one) ⟨⟨rfl, rfl⟩, ?_⟩)
      obtain ⟨c6, h⟩ := gG h
      refine RQ.st (some 26) rfl rfl (sf_cat (a := x4) (b := x0.fS) rfl rfl rfl c6 ⟨⟨rfl, rfl⟩, ?_⟩)
      refine RQ.st (some 2) rfl rfl (sf_assign (v := .d (.val (sV (x4 ++ x0.fS)))) rfl rfl ⟨⟨rfl, rfl⟩, ?_⟩)
      refine RQ.nil (nrm ?_)
      refine QW.ret (Nat.zero_le _) (thR ?_)
      obtain rfl := sG h
      exact Ends.one (.inr rfl) rfl (ResIs.tmp rfl) rfl rfl
  · replace h := bGF h hb1
    refine QW.skip (Nat.zero_le _) (nrm ?_)
    refine QW.seq ?_
    refine QW.region (Nat.zero_le _) (PW.regT (by kernel_rfl) ?_)
    refine XK.st (some 3) rfl rfl (sf_assign (v := .d (.val (sV ([] : List UInt8)))) rfl rfl ?_)
    refine XK.nil (nrm ?_)
    refine QW.seq ?_
    refine QW.seq ?_
    refine QW.region (Nat.zero_le _) (PW.regT (by kernel_rfl) ?_)
    refine XK.st (some 4) rfl rfl (sf_assign (v := .d (.val (.int .i64 (0)))) rfl rfl ?_)
    refine XK.nil (nrm ?_)
    refine QW.block ?_
    refine QW.loop (fun k σ => ∃ v3 : (List UInt8), ∃ v4 : Int, k ≤ k0 ∧ run (step_ref05_Put self x0) k (.L1 v3 v4) = some r ∧ σ = ⟨tab [(1, .d (.cptr (cItem x0))), (3, .d (.val (sV v3))), (4, .d (.val (.int .i64 v4)))], tabH [], 0, []⟩) k0 (Nat.zero_le _) ⟨⟨tab [(1, .d (.cptr (cItem x0))), (3, .d (.val (sV ([] : List UInt8)))), (4, .d (.val (.int .i64 (0))))], tabH [], 0, []⟩, View.mk 0 [] _ _ _ rfl rfl (by decide) (And.intro (Imp.of_eq rfl) (And.intro (Imp.of_eq rfl) (And.intro (Imp.of_eq rfl) trivial))) trivial rfl (Nat.zero_le _) rfl, ([] : List UInt8), 0, Nat.le_refl _, jG h, rfl⟩ ?_
    rintro k7s _ ⟨v3, v4, k7h, h, rfl⟩
    obtain ⟨k7, rfl, h9⟩ := run_succ h; replace h := h9; clear h9
    refine QW.seq ?_
    refine QW.seq ?_
    refine QW.region (Nat.zero_le _) (PW.regT (by kernel_rfl) ?_)
    refine XK.st (some 27) rfl rfl (sf_move (v := .d (.val (.int .i64 v4))) rfl rfl ?_)
    refine XK.st (some 28) rfl rfl (sf_fldC rfl TT.fldA_80_2 (by decide) rfl ?_)
    refine XK.st (some 29) rfl rfl (sf_ldC (d := .slice ((x0.fL).map eItem)) rfl TT.tyA_78 rfl (LdC.one) ?_)
    refine XK.st (some 30) rfl rfl (sf_lenL (en := eItem) (l := x0.fL) rfl TT.under_78 rfl ?_)
    refine XK.st (some 31) rfl rfl (sf_lss (a := v4) (b := ((x0.fL).length : Int)) rfl rfl rfl ?_)
    refine XK.nil (nrm ?_)
    refine QW.cond (t := (decide (v4 < ((x0.fL).length : Int)))) rfl (Nat.zero_le _) (fun hb8 => ?_) (fun hb8 => ?_)
    · replace h := bGT h hb8
      refine QW.skip (Nat.zero_le _) (nrm ?_)
      refine QW.seq ?_
      refine QW.block ?_
      refine QW.region (Nat.zero_le _) (PW.regT (by kernel_rfl) ?_)
      refine XK.st (some 34) rfl rfl (sf_move (v := .d (.val (sV v3))) rfl rfl ?_)
      refine XK.st (some 35) rfl rfl (sf_fldC rfl TT.fldA_80_2 (by decide) rfl ?_)
      refine XK.st (some 36) rfl rfl (sf_ldC (d := .slice ((x0.fL).map eItem)) rfl TT.tyA_78 rfl (LdC.one) ?_)
      refine XK.st (some 37) rfl rfl (sf_move (v := .d (.val (.int .i64 v4))) rfl rfl ?_)
      obtain ⟨c9, h⟩ := gG h
      refine XK.st (some 38) rfl rfl (sf_idxA (l := x0.fL) (i := v4) rfl TT.slcA_78 lay_Item rfl rfl c9 ?_)
      refine XK.st (some 39) rfl rfl (sf_ldC (d := .agg (cItem (idx (x0.fL) v4))) rfl TT.tyA_80 rfl (⟨by simp [cItem], rfl⟩) ?_)
      obtain ⟨x10, hx11, h⟩ := bG h
      refine XK.st (some 40) rfl rfl (sf_call rfl rfl TT.enters_79 rfl (hself (idx (x0.fL) v4) _ hx11) ?_)
      obtain ⟨c12, h⟩ := gG h
      refine XK.st (some 41) rfl rfl (sf_cat (a := v3) (b := x10) rfl rfl rfl c12 ?_)
      refine XK.st (some 3) rfl rfl (sf_assign (v := .d (.val (sV (v3 ++ x10)))) rfl rfl ?_)
      refine XK.nil (blN (nrm ?_))
      refine QW.region (Nat.zero_le _) (PW.regT (by kernel_rfl) ?_)
      refine XK.st (some 32) rfl rfl (sf_move (v := .d (.val (.int .i64 v4))) rfl rfl ?_)
      obtain ⟨c13, h⟩ := gG h
      refine XK.st (some 33) rfl rfl (sf_add (a := v4) (b := (1 : Int)) rfl rfl rfl c13 ?_)
      refine XK.st (some 4) rfl rfl (sf_assign (v := .d (.val (.int .i64 (v4 + (1 : Int))))) rfl rfl ?_)
      refine XK.nil (nrm ?_)
      exact ⟨k7, by omega, ⟨tab [(1, .d (.cptr (cItem x0))), (3, .d (.val (sV (v3 ++ x10)))), (4, .d (.val (.int .i64 (v4 + (1 : Int)))))], tabH [], 0, []⟩, View.mk 0 [] _ _ _ rfl rfl (by decide) (And.intro (Imp.of_eq rfl) (And.intro (Imp.of_eq rfl) (And.intro (Imp.of_eq rfl) trivial))) trivial rfl (Nat.zero_le _) rfl, (v3 ++ x10), (v4 + (1 : Int)), by omega, jG h, rfl⟩
    · replace h := bGF h hb8
      refine QW.exit (Nat.zero_le _) (thX (thX (exE (nrm ?_))))
      refine QW.seq ?_
      refine QW.region (Nat.zero_le _) (PW.regT (by kernel_rfl) ?_)
      refine XK.st (some 42) rfl rfl (sf_move (v := .d (.val (sV v3))) rfl rfl ?_)
      refine XK.st (some 43) rfl rfl (sf_lenS (l := v3) rfl TT.under_9 rfl ?_)
      obtain ⟨x14, hx15, h⟩ := bG h
      refine XK.st (some 44) rfl rfl (sf_call rfl rfl TT.enters_65 rfl (sim_ref05_Head (v3.length : Int) true _ hx15) ?_)
      refine XK.st (some 45) rfl rfl (sf_move (v := .d (.val (sV v3))) rfl rfl ?_)
      obtain ⟨c16, h⟩ := gG h
      refine XK.st (some 46) rfl rfl (sf_cat (a := x14) (b := v3) rfl rfl rfl c16 ?_)
      refine XK.st (some 2) rfl rfl (sf_assign (v := .d (.val (sV (x14 ++ v3)))) rfl rfl ?_)
      refine XK.nil (nrm ?_)
      refine QW.ret (Nat.zero_le _) ?_
      obtain rfl := sG h
      exact Ends.one (.inr rfl) rfl (ResIs.tmp rfl) rfl rfl

noncomputable def rec_ref05_Put : Nat → Item → Option (List UInt8)
  | 0 => fun _ => none
  | n + 1 => fun y0 => gs_ref05_Put (rec_ref05_Put n) y0

theorem simr_ref05_Put : ∀ (n : Nat) (y0 : Item) (rr : (List UInt8)), rec_ref05_Put n y0 = some rr → Fun Try.prog 79 [.agg (cItem y0)] (.val (sV rr))
  | 0, _, _, h => by cases h
  | n + 1, y0, rr, h => sims_ref05_Put (rec_ref05_Put n) (simr_ref05_Put n) y0 rr h

noncomputable def g_ref05_Put (y0 : Item) : Option (List UInt8) := theR (fun n => rec_ref05_Put n y0)

theorem sim_ref05_Put (y0 : Item) (rr : (List UInt8)) (h : g_ref05_Put y0 = some rr) : Fun Try.prog 79 [.agg (cItem y0)] (.val (sV rr)) := by
  obtain ⟨n, hn⟩ := theR_get h
  exact simr_ref05_Put n y0 rr hn

inductive C_ref05_Read where
  | S
  | L2 (v13_3 : Int) (v16_2 : Int)
  | J1 (v13_2 : Int) (v14 : Int)
  | L3 (left2_2 : Int) (v13_5 : Int) (v14_3 : Int) (v17_2 : (List UInt8)) (v18_2 : (List Item))

noncomputable def step_ref05_Read (self : (List UInt8) → Int → Int → Option (Item × Int × Int × Int)) (s0 : (List UInt8)) (depth1 : Int) (left2 : Int) : C_ref05_Read → Option (C_ref05_Read ⊕ (Item × Int × Int × Int))
  | .S =>
    (bif (decide ((64 : Int) < depth1)) then
    some (.inr ((⟨false, ([] : List UInt8), ([] : (List Item))⟩ : Item), 0, 0, 17))
    else
    (bif (decide (left2 < (1 : Int))) then
    some (.inr ((⟨false, ([] : List UInt8), ([] : (List Item))⟩ : Item), 0, 0, 4))
    else
    gO (inI (left2 - (1 : Int))) (
    (bif (s0 == ([] : List UInt8)) then
    some (.inr ((⟨false, ([] : List UInt8), ([] : (List Item))⟩ : Item), 0, 0, 5))
    else
    gO (0 ≤ (0 : Int) ∧ (0 : Int) < (s0.length : Int)) (
    (bif (decide (((idx s0 (0 : Int)).toNat : Int) < (128 : Int))) then
    gO (0 ≤ (0 : Int) ∧ (0 : Int) ≤ (1 : Int) ∧ (1 : Int) ≤ (s0.length : Int)) (
    some (.inr ((⟨false, (sub s0 (0 : Int) (1 : Int)), ([] : (List Item))⟩ : Item), 1, (left2 - (1 : Int)), 0)))
    else
    (bif (decide ((55 : Int) < (((idx s0 (0 : Int)).toNat : Int).tmod (64 : Int)))) then
    gO (inI ((((idx s0 (0 : Int)).toNat : Int).tmod (64 : Int)) - (55 : Int))) (
    gO (inI ((1 : Int) + ((((idx s0 (0 : Int)).toNat : Int).tmod (64 : Int)) - (55 : Int)))) (
    (bif (decide ((s0.length : Int) < ((1 : Int) + ((((idx s0 (0 : Int)).toNat : Int).tmod (64 : Int)) - (55 : Int))))) then
    some (.inr ((⟨false, ([] : List UInt8), ([] : (List Item))⟩ : Item), 0, 0, 5))
    else
    gO (0 ≤ (1 : Int) ∧ (1 : Int) < (s0.length : Int)) (
    (bif (decide (((idx s0 (1 : Int)).toNat : Int) = (0 : Int))) then
    some (.inr ((⟨false, ([] : List UInt8), ([] : (List Item))⟩ : Item), 0, 0, 6))
    else
    some (.inl (.L2 (0) (1))))))))
    else
    some (.inl (.J1 (((idx s0 (0 : Int)).toNat : Int).tmod (64 : Int)) (1))))))))))
  | .L2 v13_3 v16_2 =>
    (bif (decide (v16_2 ≤ ((((idx s0 (0 : Int)).toNat : Int).tmod (64 : Int)) - (55 : Int)))) then
    (bif (decide ((4294967296 : Int) ≤ v13_3)) then
    some (.inr ((⟨false, ([] : List UInt8), ([] : (List Item))⟩ : Item), 0, 0, 5))
    else
    gO (inI ((256 : Int) * v13_3)) (
    gO (0 ≤ v16_2 ∧ v16_2 < (s0.length : Int)) (
    gO (inI (((256 : Int) * v13_3) + ((idx s0 v16_2).toNat : Int))) (
    gO (inI (v16_2 + (1 : Int))) (
    some (.inl (.L2 (((256 : Int) * v13_3) + ((idx s0 v16_2).toNat : Int)) (v16_2 + (1 : Int)))))))))
    else
    (bif (decide (v13_3 < (56 : Int))) then
    some (.inr ((⟨false, ([] : List UInt8), ([] : (List Item))⟩ : Item), 0, 0, 6))
    else
    gO (inI ((1 : Int) + ((((idx s0 (0 : Int)).toNat : Int).tmod (64 : Int)) - (55 : Int)))) (
    some (.inl (.J1 v13_3 ((1 : Int) + ((((idx s0 (0 : Int)).toNat : Int).tmod (64 : Int)) - (55 : Int))))))))
  | .J1 v13_2 v14 =>
    gO (inI ((s0.length : Int) - v14)) (
    (bif (decide (((s0.length : Int) - v14) < v13_2)) then
    some (.inr ((⟨false, ([] : List UInt8), ([] : (List Item))⟩ : Item), 0, 0, 5))
    else
    gO (inI (v14 + v13_2)) (
    gO (0 ≤ v14 ∧ v14 ≤ (v14 + v13_2) ∧ (v14 + v13_2) ≤ (s0.length : Int)) (
    (bif (!(decide ((192 : Int) ≤ ((idx s0 (0 : Int)).toNat : Int)))) then
    gO ((decide (v13_2 = (1 : Int))) = true → 0 ≤ (0 : Int) ∧ (0 : Int) < ((sub s0 v14 (v14 + v13_2)).length : Int)) (
    (bif ((decide (v13_2 = (1 : Int))) && (decide (((idx (sub s0 v14 (v14 + v13_2)) (0 : Int)).toNat : Int) < (128 : Int)))) then
    some (.inr ((⟨false, ([] : List UInt8), ([] : (List Item))⟩ : Item), 0, 0, 6))
    else
    gO (inI (v14 + v13_2)) (
    some (.inr ((⟨false, (sub s0 v14 (v14 + v13_2)), ([] : (List Item))⟩ : Item), (v14 + v13_2), (left2 - (1 : Int)), 0)))))
    else
    some (.inl (.L3 (left2 - (1 : Int)) v13_2 v14 (sub s0 v14 (v14 + v13_2)) ([] : (List Item)))))))))
  | .L3 left2_2 v13_5 v14_3 v17_2 v18_2 =>
    (bif (!(v17_2 == ([] : List UInt8))) then
    gO (inI (depth1 + (1 : Int))) (
    ((self v17_2 (depth1 + (1 : Int)) left2_2).bind fun (x35 : (Item × Int × Int × Int)) =>
    (bif (!decide ((x35.2.2.2) = (0 : Int))) then
    some (.inr ((⟨false, ([] : List UInt8), ([] : (List Item))⟩ : Item), 0, 0, x35.2.2.2))
    else
    gO ((v18_2.length + ([x35.1] : List Item).length) * 48 ≤ 140737488355328) (
    gO (0 ≤ (x35.2.1) ∧ (x35.2.1) ≤ (v17_2.length : Int) ∧ (v17_2.length : Int) ≤ (v17_2.length : Int)) (
    some (.inl (.L3 (x35.2.2.1) v13_5 v14_3 (sub v17_2 (x35.2.1) (v17_2.length : Int)) (v18_2 ++ ([x35.1] : List Item)))))))))
    else
    gO (inI (v14_3 + v13_5)) (
    some (.inr ((⟨true, ([] : List UInt8), v18_2⟩ : Item), (v14_3 + v13_5), left2_2, 0))))

noncomputable def gs_ref05_Read (self : (List UInt8) → Int → Int → Option (Item × Int × Int × Int)) (s0 : (List UInt8)) (depth1 : Int) (left2 : Int) : Option (Item × Int × Int × Int) := theC (step_ref05_Read self s0 depth1 left2) .S

set_option maxRecDepth 20000 in
set_option maxHeartbeats 4000000 in
theorem sims_ref05_Read (self : (List UInt8) → Int → Int → Option (Item × Int × Int × Int)) (hself : ∀ (y0 : (List UInt8)) (y1 : Int) (y2 : Int) (rr : (Item × Int × Int × Int)), self y0 y1 y2 = some rr → Fun Try.prog 81 [.val (sV y0), .val (.int .i64 y1), .val (.int .i64 y2)] (.tuple [.agg (cItem (rr.1)), .val (.int .i64 (rr.2.1)), .val (.int .i64 (rr.2.2.1)), .val (.int .i64 (rr.2.2.2))])) (s0 : (List UInt8)) (depth1 : Int) (left2 : Int) (r : (Item × Int × Int × Int)) (h : gs_ref05_Read self s0 depth1 left2 = some r) : Fun Try.prog 81 [.val (sV s0), .val (.int .i64 depth1), .val (.int .i64 left2)] (.tuple [.agg (cItem (r.1)), .val (.int .i64 (r.2.1)), .val (.int .i64 (r.2.2.1)), .val (.int .i64 (r.2.2.2))]) := by
  refine Fun.of_bodyQ Try.func81 rfl (by simp [Try.ntmps81]) ?_
  rw [Try.ntmps81, TT.res_81]
  refine QW.view (s' := ⟨tab [(0, .d (.val (sV s0))), (1, .d (.val (.int .i64 depth1))), (2, .d (.val (.int .i64 left2)))], tabH [], 0, []⟩) (View.init (by rfl)) (Nat.zero_le _) ?_
  replace h := theC_get h
  obtain ⟨_, h⟩ := h
  obtain ⟨k0, rfl, h9⟩ := run_succ h; replace h := h9; clear h9
  refine QW.seq ?_
  refine QW.region (Nat.zero_le _) (PW.regT (by kernel_rfl) ?_)
  refine XK.st (some 6) rfl rfl (sf_alloc (l := [.d (.val (.bool false)), .d (.val (sV ([] : List UInt8))), .full (([] : (List Item)).map eItem)]) rfl TT.zeroA_80 rfl rfl ?_)
  refine XK.st (some 7) rfl rfl (sf_assign (v := .d (.val (.int .i64 (0)))) rfl rfl ?_)
  refine XK.st (some 8) rfl rfl (sf_assign (v := .d (.val (.int .i64 (0)))) rfl rfl ?_)
  refine XK.st (some 9) rfl rfl (sf_assign (v := .d (.val (.int .i64 (0)))) rfl rfl ?_)
  refine XK.nil (nrm ?_)
  refine QW.seq ?_
  refine QW.region (Nat.zero_le _) (PW.regT (by kernel_rfl) ?_)
  refine XK.st (some 23) rfl rfl (sf_bld (v := .agg [.d (.val (.bool false)), .d (.val (sV ([] : List UInt8))), .full (([] : (List Item)).map eItem)]) rfl TT.bldA_80 (build_of rfl fill_nil) ?_)
  refine XK.st (some 10) rfl rfl (sf_alloc (l := [.d (.val (.bool false)), .d (.val (sV ([] : List UInt8))), .full (([] : (List Item)).map eItem)]) rfl TT.zeroA_80 rfl rfl ?_)
  refine XK.st none rfl rfl (sf_stV (l' := [.d (.val (.bool false)), .d (.val (sV ([] : List UInt8))), .full (([] : (List Item)).map eItem)]) rfl TT.tyA_80 rfl rfl rfl rfl rfl rfl (by simp) rfl ?_)
  refine XK.nil (nrm ?_)
  refine QW.seq ?_
  refine QW.seq ?_
  refine QW.region (Nat.zero_le _) (PW.regT (by kernel_rfl) ?_)
  refine XK.st (some 24) rfl rfl (sf_move (v := .d (.val (.int .i64 depth1))) rfl rfl ?_)
  refine XK.st (some 25) rfl rfl (sf_gtr (a := depth1) (b := (64 : Int)) rfl rfl rfl ?_)
  refine XK.nil (nrm ?_)
  refine QW.cond (t := (decide ((64 : Int) < depth1))) rfl (Nat.zero_le _) (fun hb1 => ?_) (fun hb1 => ?_)
  · replace h := bGT h hb1
    refine QW.seq ?_
    refine QW.region (Nat.zero_le _) (PW.regT (by kernel_rfl) ?_)
    refine XK.as (some 26) rfl rfl (sf_ldV (v := .agg [.d (.val (.bool false)), .d (.val (sV ([] : List UInt8))), .full (([] : (List Item)).map eItem)]) rfl TT.tyA_80 rfl rfl ⟨⟨by simp, by simp⟩, rfl⟩ ⟨.d (.agg (cItem (⟨false, ([] : List UInt8), ([] : (List Item))⟩ : Item))), (Imp.toD rfl), ?_⟩)
    refine XK.st none rfl rfl (sf_stV (l' := [.d (.val (.bool false)), .d (.val (sV ([] : List UInt8))), .d (.slice (([] : (List Item)).map eItem))]) rfl TT.tyA_80 rfl rfl rfl rfl rfl rfl (by simp) rfl ?_)
    refine XK.st (some 7) rfl rfl (sf_assign (v := .d (.val (.int .i64 (0)))) rfl rfl ?_)
    refine XK.st (some 8) rfl rfl (sf_assign (v := .d (.val (.int .i64 (0)))) rfl rfl ?_)
    refine XK.st (some 9) rfl rfl (sf_assign (v := .d (.val (.int .i64 (17)))) rfl rfl ?_)
    refine XK.nil (nrm ?_)
    refine QW.ret (Nat.zero_le _) (thR ?_)
    obtain rfl := sG h
    exact Ends.more (.inr rfl) rfl (ps := [.agg [.d (.val (.bool false)), .d (.val (sV ([] : List UInt8))), .d (.slice (([] : (List Item)).map eItem))], .d (.val (.int .i64 (0))), .d (.val (.int .i64 (0))), .d (.val (.int .i64 (17)))]) (And.intro (ResIs.cell rfl rfl TT.tyA_80 ⟨⟨by simp, by simp⟩, rfl⟩) (And.intro (ResIs.tmp rfl) (And.intro (ResIs.tmp rfl) (And.intro (ResIs.tmp rfl) trivial)))) rfl rfl
  · replace h := bGF h hb1
    refine QW.skip (Nat.zero_le _) (nrm ?_)
    refine QW.seq ?_
    refine QW.seq ?_
    refine QW.region (Nat.zero_le _) (PW.regT (by kernel_rfl) ?_)
    refine XK.st (some 27) rfl rfl (sf_move (v := .d (.val (.int .i64 left2))) rfl rfl ?_)
    refine XK.st (some 28) rfl rfl (sf_lss (a := left2) (b := (1 : Int)) rfl rfl rfl ?_)
    refine XK.nil (nrm ?_)
    refine QW.cond (t := (decide (left2 < (1 : Int)))) rfl (Nat.zero_le _) (fun hb2 => ?_) (fun hb2 => ?_)
    · replace h := bGT h hb2
      refine QW.seq ?_
      refine QW.region (Nat.zero_le _) (PW.regT (by kernel_rfl) ?_)
      refine XK.as (some 29) rfl rfl (sf_ldV (v := .agg [.d (.val (.bool false)), .d (.val (sV ([] : List UInt8))), .full (([] : (List Item)).map eItem)]) rfl TT.tyA_80 rfl rfl ⟨⟨by simp, by simp⟩, rfl⟩ ⟨.d (.agg (cItem (⟨false, ([] : List UInt8), ([] : (List Item))⟩ : Item))), (Imp.toD rfl), ?_⟩)
      refine XK.st none rfl rfl (sf_stV (l' := [.d (.val (.bool false)), .d (.val (sV ([] : List UInt8))), .d (.slice (([] : (List Item)).map eItem))]) rfl TT.tyA_80 rfl rfl rfl rfl rfl rfl (by simp) rfl ?_)
      refine XK.st (some 7) rfl rfl (sf_assign (v := .d (.val (.int .i64 (0)))) rfl rfl ?_)
      refine XK.st (some 8) rfl rfl (sf_assign (v := .d (.val (.int .i64 (0)))) rfl rfl ?_)
      refine XK.st (some 9) rfl rfl (sf_assign (v := .d (.val (.int .i64 (4)))) rfl rfl ?_)
      refine XK.nil (nrm ?_)
      refine QW.ret (Nat.zero_le _) (thR ?_)
      obtain rfl := sG h
      exact Ends.more (.inr rfl) rfl (ps := [.agg [.d (.val (.bool false)), .d (.val (sV ([] : List UInt8))), .d (.slice (([] : (List Item)).map eItem))], .d (.val (.int .i64 (0))), .d (.val (.int .i64 (0))), .d (.val (.int .i64 (4)))]) (And.intro (ResIs.cell rfl rfl TT.tyA_80 ⟨⟨by simp, by simp⟩, rfl⟩) (And.intro (ResIs.tmp rfl) (And.intro (ResIs.tmp rfl) (And.intro (ResIs.tmp rfl) trivial)))) rfl rfl
    · replace h := bGF h hb2
      refine QW.skip (Nat.zero_le _) (nrm ?_)
      refine QW.seq ?_
      refine QW.region (Nat.zero_le _) (PW.regT (by kernel_rfl) ?_)
      refine XK.st (some 30) rfl rfl (sf_move (v := .d (.val (.int .i64 left2))) rfl rfl ?_)
      obtain ⟨c3, h⟩ := gG h
      refine XK.st (some 31) rfl rfl (sf_sub (a := left2) (b := (1 : Int)) rfl rfl rfl c3 ?_)
      refine XK.st (some 2) rfl rfl (sf_assign (v := .d (.val (.int .i64 (left2 - (1 : Int))))) rfl rfl ?_)
      refine XK.nil (nrm ?_)
      refine QW.seq ?_
      refine QW.seq ?_
      refine QW.region (Nat.zero_le _) (PW.regT (by kernel_rfl) ?_)
      refine XK.st (some 32) rfl rfl (sf_move (v := .d (.val (sV s0))) rfl rfl ?_)
      refine XK.st (some 33) rfl rfl (sf_seq (a := s0) (b := ([] : List UInt8)) rfl rfl rfl ?_)
      refine XK.nil (nrm ?_)
      refine QW.cond (t := (s0 == ([] : List UInt8))) rfl (Nat.zero_le _) (fun hb4 => ?_) (fun hb4 => ?_)
      · replace h := bGT h hb4
        refine QW.seq ?_
        refine QW.region (Nat.zero_le _) (PW.regT (by kernel_rfl) ?_)
        refine XK.as (some 34) rfl rfl (sf_ldV (v := .agg [.d (.val (.bool false)), .d (.val (sV ([] : List UInt8))), .full (([] : (List Item)).map eItem)]) rfl TT.tyA_80 rfl rfl ⟨⟨by simp, by simp⟩, rfl⟩ ⟨.d (.agg (cItem (⟨false, ([] : List UInt8), ([] : (List Item))⟩ : Item))), (Imp.toD rfl), ?_⟩)
        refine XK.st none rfl rfl (sf_stV (l' := [.d (.val (.bool false)), .d (.val (sV ([] : List UInt8))), .d (.slice (([] : (List Item)).map eItem))]) rfl TT.tyA_80 rfl rfl rfl rfl rfl rfl (by simp) rfl ?_)
        refine XK.st (some 7) rfl rfl (sf_assign (v := .d (.val (.int .i64 (0)))) rfl rfl ?_)
        refine XK.st (some 8) rfl rfl (sf_assign (v := .d (.val (.int .i64 (0)))) rfl rfl ?_)
        refine XK.st (some 9) rfl rfl (sf_assign (v := .d (.val (.int .i64 (5)))) rfl rfl ?_)
        refine XK.nil (nrm ?_)
        refine QW.ret (Nat.zero_le _) (thR ?_)
        obtain rfl := sG h
        exact Ends.more (.inr rfl) rfl (ps := [.agg [.d (.val (.bool false)), .d (.val (sV ([] : List UInt8))), .d (.slice (([] : (List Item)).map eItem))], .d (.val (.int .i64 (0))), .d (.val (.int .i64 (0))), .d (.val (.int .i64 (5)))]) (And.intro (ResIs.cell rfl rfl TT.tyA_80 ⟨⟨by simp, by simp⟩, rfl⟩) (And.intro (ResIs.tmp rfl) (And.intro (ResIs.tmp rfl) (And.intro (ResIs.tmp rfl) trivial)))) rfl rfl
      · replace h := bGF h hb4
        refine QW.skip (Nat.zero_le _) (nrm ?_)
        refine QW.seq ?_
        refine QW.region (Nat.zero_le _) (PW.regT (by kernel_rfl) ?_)
        refine XK.st (some 35) rfl rfl (sf_move (v := .d (.val (sV s0))) rfl rfl ?_)
        obtain ⟨c5, h⟩ := gG h
        refine XK.st (some 36) rfl rfl (sf_idxS (l := s0) (i := (0 : Int)) rfl TT.under_9 TT.arrA_9 rfl rfl c5 ?_)
        refine XK.st (some 37) rfl rfl (sf_toI (n := ((idx s0 (0 : Int)).toNat : Int)) rfl TT.under_5 TT.under_3 rfl (inI_u8 _) ?_)
        refine XK.st (some 11) rfl rfl (sf_assign (v := .d (.val (.int .i64 ((idx s0 (0 : Int)).toNat : Int)))) rfl rfl ?_)
        refine XK.nil (nrm ?_)
        refine QW.seq ?_
        refine QW.seq ?_
        refine QW.region (Nat.zero_le _) (PW.regT (by kernel_rfl) ?_)
        refine XK.st (some 38) rfl rfl (sf_move (v := .d (.val (.int .i64 ((idx s0 (0 : Int)).toNat : Int)))) rfl rfl ?_)
        refine XK.st (some 39) rfl rfl (sf_lss (a := ((idx s0 (0 : Int)).toNat : Int)) (b := (128 : Int)) rfl rfl rfl ?_)
        refine XK.nil (nrm ?_)
        refine QW.cond (t := (decide (((idx s0 (0 : Int)).toNat : Int) < (128 : Int)))) rfl (Nat.zero_le _) (fun hb6 => ?_) (fun hb6 => ?_)
        · replace h := bGT h hb6
          refine QW.seq ?_
          refine QW.region (Nat.zero_le _) (PW.regT (by kernel_rfl) ?_)
          refine XK.st (some 40) rfl rfl (sf_move (v := .d (.val (sV s0))) rfl rfl ?_)
          obtain ⟨c7, h⟩ := gG h
          refine XK.st (some 41) rfl rfl (sf_subS (l := s0) (a := (0 : Int)) (b := (1 : Int)) rfl TT.under_9 rfl rfl rfl c7 ?_)
          refine XK.st (some 42) rfl rfl (sf_bld (v := .agg [.d (.val (.bool false)), .d (.val (sV (sub s0 (0 : Int) (1 : Int)))), .full (([] : (List Item)).map eItem)]) rfl TT.bldA_80 (build_of rfl (fill_step (cells' := [.d (.val (.bool false)), .d (.val (sV (sub s0 (0 : Int) (1 : Int)))), .full (([] : (List Item)).map eItem)]) rfl rfl rfl (Nat.le_of_ble_eq_true rfl) rfl fill_nil)) ?_)
          refine XK.st (some 43) rfl rfl (sf_move (v := .d (.val (.int .i64 (left2 - (1 : Int))))) rfl rfl ?_)
          refine XK.st none rfl rfl (sf_stV (l' := [.d (.val (.bool false)), .d (.val (sV (sub s0 (0 : Int) (1 : Int)))), .full (([] : (List Item)).map eItem)]) rfl TT.tyA_80 rfl rfl rfl rfl rfl rfl (by simp) rfl ?_)
          refine XK.st (some 7) rfl rfl (sf_assign (v := .d (.val (.int .i64 (1)))) rfl rfl ?_)
          refine XK.st (some 8) rfl rfl (sf_assign (v := .d (.val (.int .i64 (left2 - (1 : Int))))) rfl rfl ?_)
          refine XK.st (some 9) rfl rfl (sf_assign (v := .d (.val (.int .i64 (0)))) rfl rfl ?_)
          refine XK.nil (nrm ?_)
          refine QW.ret (Nat.zero_le _) (thR ?_)
          obtain rfl := sG h
          exact Ends.more (.inr rfl) rfl (ps := [.agg [.d (.val (.bool false)), .d (.val (sV (sub s0 (0 : Int) (1 : Int)))), .full (([] : (List Item)).map eItem)], .d (.val (.int .i64 (1))), .d (.val (.int .i64 (left2 - (1 : Int)))), .d (.val (.int .i64 (0)))]) (And.intro (ResIs.cell rfl rfl TT.tyA_80 ⟨⟨by simp, by simp⟩, rfl⟩) (And.intro (ResIs.tmp rfl) (And.intro (ResIs.tmp rfl) (And.intro (ResIs.tmp rfl) trivial)))) rfl rfl
        · replace h := bGF h hb6
          refine QW.skip (Nat.zero_le _) (nrm ?_)
          refine QW.seq ?_
          refine QW.region (Nat.zero_le _) (PW.regT (by kernel_rfl) ?_)
          refine XK.st (some 44) rfl rfl (sf_move (v := .d (.val (.int .i64 ((idx s0 (0 : Int)).toNat : Int)))) rfl rfl ?_)
          refine XK.st (some 45) rfl rfl (sf_geq (a := ((idx s0 (0 : Int)).toNat : Int)) (b := (192 : Int)) rfl rfl rfl ?_)
          refine XK.st (some 12) rfl rfl (sf_assign (v := .d (.val (.bool (decide ((192 : Int) ≤ ((idx s0 (0 : Int)).toNat : Int)))))) rfl rfl ?_)
          refine XK.nil (nrm ?_)
          refine QW.seq ?_
          refine QW.region (Nat.zero_le _) (PW.regT (by kernel_rfl) ?_)
          refine XK.st (some 46) rfl rfl (sf_move (v := .d (.val (.int .i64 ((idx s0 (0 : Int)).toNat : Int)))) rfl rfl ?_)
          refine XK.st (some 47) rfl rfl (sf_rem (a := ((idx s0 (0 : Int)).toNat : Int)) (b := (64 : Int)) rfl rfl rfl (by decide) ?_)
          refine XK.st (some 13) rfl rfl (sf_assign (v := .d (.val (.int .i64 (((idx s0 (0 : Int)).toNat : Int).tmod (64 : Int))))) rfl rfl ?_)
          refine XK.nil (nrm ?_)
          refine QW.seq ?_
          refine QW.region (Nat.zero_le _) (PW.regT (by kernel_rfl) ?_)
          refine XK.st (some 14) rfl rfl (sf_assign (v := .d (.val (.int .i64 (1)))) rfl rfl ?_)
          refine XK.nil (nrm ?_)
          refine QW.seqI (fun s' => ∃ v13_2 : Int, ∃ v14 : Int, ∃ k : Nat, k ≤ k0 ∧ run (step_ref05_Read self s0 depth1 left2) k (.J1 v13_2 v14) = some r ∧ s' = ⟨tab [(0, .d (.val (sV s0))), (1, .d (.val (.int .i64 depth1))), (2, .d (.val (.int .i64 (left2 - (1 : Int))))), (6, .vptr 0 0), (10, .vptr 1 0), (12, .d (.val (.bool (decide ((192 : Int) ≤ ((idx s0 (0 : Int)).toNat : Int)))))), (13, .d (.val (.int .i64 v13_2))), (14, .d (.val (.int .i64 v14)))], tabH [.var [.d (.val (.bool false)), .d (.val (sV ([] : List UInt8))), .full (([] : (List Item)).map eItem)], .var [.d (.val (.bool false)), .d (.val (sV ([] : List UInt8))), .full (([] : (List Item)).map eItem)]], 2, []⟩) ?_ ?_
          · refine QW.seq ?_
            refine QW.region (Nat.zero_le _) (PW.regT (by kernel_rfl) ?_)
            refine XK.st (some 48) rfl rfl (sf_move (v := .d (.val (.int .i64 (((idx s0 (0 : Int)).toNat : Int).tmod (64 : Int))))) rfl rfl ?_)
            refine XK.st (some 49) rfl rfl (sf_gtr (a := (((idx s0 (0 : Int)).toNat : Int).tmod (64 : Int))) (b := (55 : Int)) rfl rfl rfl ?_)
            refine XK.nil (nrm ?_)
            refine QW.cond (t := (decide ((55 : Int) < (((idx s0 (0 : Int)).toNat : Int).tmod (64 : Int))))) rfl (Nat.zero_le _) (fun hb8 => ?_) (fun hb8 => ?_)
            · replace h := bGT h hb8
              refine QW.seq ?_
              refine QW.region (Nat.zero_le _) (PW.regT (by kernel_rfl) ?_)
              refine XK.st (some 50) rfl rfl (sf_move (v := .d (.val (.int .i64 (((idx s0 (0 : Int)).toNat : Int).tmod (64 : Int))))) rfl rfl ?_)
              obtain ⟨c9, h⟩ := gG h
              refine XK.st (some 51) rfl rfl (sf_sub (a := (((idx s0 (0 : Int)).toNat : Int).tmod (64 : Int))) (b := (55 : Int)) rfl rfl rfl c9 ?_)
              refine XK.st (some 15) rfl rfl (sf_assign (v := .d (.val (.int .i64 ((((idx s0 (0 : Int)).toNat : Int).tmod (64 : Int)) - (55 : Int))))) rfl rfl ?_)
              refine XK.nil (nrm ?_)
              refine QW.seq ?_
              refine QW.seq ?_
              refine QW.region (Nat.zero_le _) (PW.regT (by kernel_rfl) ?_)
              refine XK.st (some 52) rfl rfl (sf_move (v := .d (.val (sV s0))) rfl rfl ?_)
              refine XK.st (some 53) rfl rfl (sf_lenS (l := s0) rfl TT.under_9 rfl ?_)
              refine XK.st (some 54) rfl rfl (sf_move (v := .d (.val (.int .i64 ((((idx s0 (0 : Int)).toNat : Int).tmod (64 : Int)) - (55 : Int))))) rfl rfl ?_)
              obtain ⟨c10, h⟩ := gG h
              refine XK.st (some 55) rfl rfl (sf_add (a := (1 : Int)) (b := ((((idx s0 (0 : Int)).toNat : Int).tmod (64 : Int)) - (55 : Int))) rfl rfl rfl c10 ?_)
              refine XK.st (some 56) rfl rfl (sf_lss (a := (s0.length : Int)) (b := ((1 : Int) + ((((idx s0 (0 : Int)).toNat : Int).tmod (64 : Int)) - (55 : Int)))) rfl rfl rfl ?_)
              refine XK.nil (nrm ?_)
              refine QW.cond (t := (decide ((s0.length : Int) < ((1 : Int) + ((((idx s0 (0 : Int)).toNat : Int).tmod (64 : Int)) - (55 : Int)))))) rfl (Nat.zero_le _) (fun hb11 => ?_) (fun hb11 => ?_)
              · replace h := bGT h hb11
                refine QW.seq ?_
                refine QW.region (Nat.zero_le _) (PW.regT (by kernel_rfl) ?_)
                refine XK.as (some 57) rfl rfl (sf_ldV (v := .agg [.d (.val (.bool false)), .d (.val (sV ([] : List UInt8))), .full (([] : (List Item)).map eItem)]) rfl TT.tyA_80 rfl rfl ⟨⟨by simp, by simp⟩, rfl⟩ ⟨.d (.agg (cItem (⟨false, ([] : List UInt8), ([] : (List Item))⟩ : Item))), (Imp.toD rfl), ?_⟩)
                refine XK.st none rfl rfl (sf_stV (l' := [.d (.val (.bool false)), .d (.val (sV ([] : List UInt8))), .d (.slice (([] : (List Item)).map eItem))]) rfl TT.tyA_80 rfl rfl rfl rfl rfl rfl (by simp) rfl ?_)
                refine XK.st (some 7) rfl rfl (sf_assign (v := .d (.val (.int .i64 (0)))) rfl rfl ?_)
                refine XK.st (some 8) rfl rfl (sf_assign (v := .d (.val (.int .i64 (0)))) rfl rfl ?_)
                refine XK.st (some 9) rfl rfl (sf_assign (v := .d (.val (.int .i64 (5)))) rfl rfl ?_)
                refine XK.nil (nrm ?_)
                refine QW.ret (Nat.zero_le _) (thR (thR ?_))
                obtain rfl := sG h
                exact Ends.more (.inr rfl) rfl (ps := [.agg [.d (.val (.bool false)), .d (.val (sV ([] : List UInt8))), .d (.slice (([] : (List Item)).map eItem))], .d (.val (.int .i64 (0))), .d (.val (.int .i64 (0))), .d (.val (.int .i64 (5)))]) (And.intro (ResIs.cell rfl rfl TT.tyA_80 ⟨⟨by simp, by simp⟩, rfl⟩) (And.intro (ResIs.tmp rfl) (And.intro (ResIs.tmp rfl) (And.intro (ResIs.tmp rfl) trivial)))) rfl rfl
              · replace h := bGF h hb11
                refine QW.skip (Nat.zero_le _) (nrm ?_)
                refine QW.seq ?_
                refine QW.seq ?_
                refine QW.region (Nat.zero_le _) (PW.regT (by kernel_rfl) ?_)
                refine XK.st (some 58) rfl rfl (sf_move (v := .d (.val (sV s0))) rfl rfl ?_)
                obtain ⟨c12, h⟩ := gG h
                refine XK.st (some 59) rfl rfl (sf_idxS (l := s0) (i := (1 : Int)) rfl TT.under_9 TT.arrA_9 rfl rfl c12 ?_)
                refine XK.st (some 60) rfl rfl (sf_eq (a := ((idx s0 (1 : Int)).toNat : Int)) (b := (0 : Int)) rfl rfl rfl ?_)
                refine XK.nil (nrm ?_)
                refine QW.cond (t := (decide (((idx s0 (1 : Int)).toNat : Int) = (0 : Int)))) rfl (Nat.zero_le _) (fun hb13 => ?_) (fun hb13 => ?_)
                · replace h := bGT h hb13
                  refine QW.seq ?_
                  refine QW.region (Nat.zero_le _) (PW.regT (by kernel_rfl) ?_)
                  refine XK.as (some 61) rfl rfl (sf_ldV (v := .agg [.d (.val (.bool false)), .d (.val (sV ([] : List UInt8))), .full (([] : (List Item)).map eItem)]) rfl TT.tyA_80 rfl rfl ⟨⟨by simp, by simp⟩, rfl⟩ ⟨.d (.agg (cItem (⟨false, ([] : List UInt8), ([] : (List Item))⟩ : Item))), (Imp.toD rfl), ?_⟩)
                  refine XK.st none rfl rfl (sf_stV (l' := [.d (.val (.bool false)), .d (.val (sV ([] : List UInt8))), .d (.slice (([] : (List Item)).map eItem))]) rfl TT.tyA_80 rfl rfl rfl rfl rfl rfl (by simp) rfl ?_)
                  refine XK.st (some 7) rfl rfl (sf_assign (v := .d (.val (.int .i64 (0)))) rfl rfl ?_)
                  refine XK.st (some 8) rfl rfl (sf_assign (v := .d (.val (.int .i64 (0)))) rfl rfl ?_)
                  refine XK.st (some 9) rfl rfl (sf_assign (v := .d (.val (.int .i64 (6)))) rfl rfl ?_)
                  refine XK.nil (nrm ?_)
                  refine QW.ret (Nat.zero_le _) (thR (thR ?_))
                  obtain rfl := sG h
                  exact Ends.more (.inr rfl) rfl (ps := [.agg [.d (.val (.bool false)), .d (.val (sV ([] : List UInt8))), .d (.slice (([] : (List Item)).map eItem))], .d (.val (.int .i64 (0))), .d (.val (.int .i64 (0))), .d (.val (.int .i64 (6)))]) (And.intro (ResIs.cell rfl rfl TT.tyA_80 ⟨⟨by simp, by simp⟩, rfl⟩) (And.intro (ResIs.tmp rfl) (And.intro (ResIs.tmp rfl) (And.intro (ResIs.tmp rfl) trivial)))) rfl rfl
                · replace h := bGF h hb13
                  refine QW.skip (Nat.zero_le _) (nrm ?_)
                  refine QW.seq ?_
                  refine QW.region (Nat.zero_le _) (PW.regT (by kernel_rfl) ?_)
                  refine XK.st (some 13) rfl rfl (sf_assign (v := .d (.val (.int .i64 (0)))) rfl rfl ?_)
                  refine XK.nil (nrm ?_)
                  refine QW.seq ?_
                  refine QW.seq ?_
                  refine QW.region (Nat.zero_le _) (PW.regT (by kernel_rfl) ?_)
                  refine XK.st (some 16) rfl rfl (sf_assign (v := .d (.val (.int .i64 (1)))) rfl rfl ?_)
                  refine XK.nil (nrm ?_)
                  refine QW.block ?_
                  refine QW.loop (fun k σ => ∃ v13_3 : Int, ∃ v16_2 : Int, k ≤ k0 ∧ run (step_ref05_Read self s0 depth1 left2) k (.L2 v13_3 v16_2) = some r ∧ σ = ⟨tab [(0, .d (.val (sV s0))), (1, .d (.val (.int .i64 depth1))), (2, .d (.val (.int .i64 (left2 - (1 : Int))))), (6, .vptr 0 0), (10, .vptr 1 0), (12, .d (.val (.bool (decide ((192 : Int) ≤ ((idx s0 (0 : Int)).toNat : Int)))))), (13, .d (.val (.int .i64 v13_3))), (15, .d (.val (.int .i64 ((((idx s0 (0 : Int)).toNat : Int).tmod (64 : Int)) - (55 : Int))))), (16, .d (.val (.int .i64 v16_2)))], tabH [.var [.d (.val (.bool false)), .d (.val (sV ([] : List UInt8))), .full (([] : (List Item)).map eItem)], .var [.d (.val (.bool false)), .d (.val (sV ([] : List UInt8))), .full (([] : (List Item)).map eItem)]], 2, []⟩) k0 (Nat.zero_le _) ⟨⟨tab [(0, .d (.val (sV s0))), (1, .d (.val (.int .i64 depth1))), (2, .d (.val (.int .i64 (left2 - (1 : Int))))), (6, .vptr 0 0), (10, .vptr 1 0), (12, .d (.val (.bool (decide ((192 : Int) ≤ ((idx s0 (0 : Int)).toNat : Int)))))), (13, .d (.val (.int .i64 (0)))), (15, .d (.val (.int .i64 ((((idx s0 (0 : Int)).toNat : Int).tmod (64 : Int)) - (55 : Int))))), (16, .d (.val (.int .i64 (1))))], tabH [.var [.d (.val (.bool false)), .d (.val (sV ([] : List UInt8))), .full (([] : (List Item)).map eItem)], .var [.d (.val (.bool false)), .d (.val (sV ([] : List UInt8))), .full (([] : (List Item)).map eItem)]], 2, []⟩, View.mk 2 [0, 1] _ _ _ rfl rfl (by decide) (And.intro (Imp.of_eq rfl) (And.intro (Imp.of_eq rfl) (And.intro (Imp.of_eq rfl) (And.intro (Imp.of_eq rfl) (And.intro (Imp.of_eq rfl) (And.intro (Imp.of_eq rfl) (And.intro (Imp.of_eq rfl) (And.intro (Imp.of_eq rfl) (And.intro (Imp.of_eq rfl) trivial))))))))) (And.intro rfl (And.intro rfl trivial)) rfl (Nat.zero_le _) rfl, 0, 1, Nat.le_refl _, jG h, rfl⟩ ?_
                  rintro k14s _ ⟨v13_3, v16_2, k14h, h, rfl⟩
                  obtain ⟨k14, rfl, h9⟩ := run_succ h; replace h := h9; clear h9
                  refine QW.seq ?_
                  refine QW.seq ?_
                  refine QW.region (Nat.zero_le _) (PW.regT (by kernel_rfl) ?_)
                  refine XK.st (some 62) rfl rfl (sf_move (v := .d (.val (.int .i64 v16_2))) rfl rfl ?_)
                  refine XK.st (some 63) rfl rfl (sf_move (v := .d (.val (.int .i64 ((((idx s0 (0 : Int)).toNat : Int).tmod (64 : Int)) - (55 : Int))))) rfl rfl ?_)
                  refine XK.st (some 64) rfl rfl (sf_leq (a := v16_2) (b := ((((idx s0 (0 : Int)).toNat : Int).tmod (64 : Int)) - (55 : Int))) rfl rfl rfl ?_)
                  refine XK.nil (nrm ?_)
                  refine QW.cond (t := (decide (v16_2 ≤ ((((idx s0 (0 : Int)).toNat : Int).tmod (64 : Int)) - (55 : Int))))) rfl (Nat.zero_le _) (fun hb15 => ?_) (fun hb15 => ?_)
                  · replace h := bGT h hb15
                    refine QW.skip (Nat.zero_le _) (nrm ?_)
                    refine QW.seq ?_
                    refine QW.block ?_
                    refine QW.seq ?_
                    refine QW.seq ?_
                    refine QW.region (Nat.zero_le _) (PW.regT (by kernel_rfl) ?_)
                    refine XK.st (some 67) rfl rfl (sf_move (v := .d (.val (.int .i64 v13_3))) rfl rfl ?_)
                    refine XK.st (some 68) rfl rfl (sf_geq (a := v13_3) (b := (4294967296 : Int)) rfl rfl rfl ?_)
                    refine XK.nil (nrm ?_)
                    refine QW.cond (t := (decide ((4294967296 : Int) ≤ v13_3))) rfl (Nat.zero_le _) (fun hb16 => ?_) (fun hb16 => ?_)
                    · replace h := bGT h hb16
                      refine QW.seq ?_
                      refine QW.region (Nat.zero_le _) (PW.regT (by kernel_rfl) ?_)
                      refine XK.as (some 69) rfl rfl (sf_ldV (v := .agg [.d (.val (.bool false)), .d (.val (sV ([] : List UInt8))), .full (([] : (List Item)).map eItem)]) rfl TT.tyA_80 rfl rfl ⟨⟨by simp, by simp⟩, rfl⟩ ⟨.d (.agg (cItem (⟨false, ([] : List UInt8), ([] : (List Item))⟩ : Item))), (Imp.toD rfl), ?_⟩)
                      refine XK.st none rfl rfl (sf_stV (l' := [.d (.val (.bool false)), .d (.val (sV ([] : List UInt8))), .d (.slice (([] : (List Item)).map eItem))]) rfl TT.tyA_80 rfl rfl rfl rfl rfl rfl (by simp) rfl ?_)
                      refine XK.st (some 7) rfl rfl (sf_assign (v := .d (.val (.int .i64 (0)))) rfl rfl ?_)
                      refine XK.st (some 8) rfl rfl (sf_assign (v := .d (.val (.int .i64 (0)))) rfl rfl ?_)
                      refine XK.st (some 9) rfl rfl (sf_assign (v := .d (.val (.int .i64 (5)))) rfl rfl ?_)
                      refine XK.nil (nrm ?_)
                      refine QW.ret (Nat.zero_le _) (thR (blR (thR (thR (blR (thR (thR ?_)))))))
                      obtain rfl := sG h
                      exact Ends.more (.inr rfl) rfl (ps := [.agg [.d (.val (.bool false)), .d (.val (sV ([] : List UInt8))), .d (.slice (([] : (List Item)).map eItem))], .d (.val (.int .i64 (0))), .d (.val (.int .i64 (0))), .d (.val (.int .i64 (5)))]) (And.intro (ResIs.cell rfl rfl TT.tyA_80 ⟨⟨by simp, by simp⟩, rfl⟩) (And.intro (ResIs.tmp rfl) (And.intro (ResIs.tmp rfl) (And.intro (ResIs.tmp rfl) trivial)))) rfl rfl
                    · replace h := bGF h hb16
                      refine QW.skip (Nat.zero_le _) (nrm ?_)
                      refine QW.region (Nat.zero_le _) (PW.regT (by kernel_rfl) ?_)
                      refine XK.st (some 70) rfl rfl (sf_move (v := .d (.val (.int .i64 v13_3))) rfl rfl ?_)
                      obtain ⟨c17, h⟩ := gG h
                      refine XK.st (some 71) rfl rfl (sf_mul (a := (256 : Int)) (b := v13_3) rfl rfl rfl c17 ?_)
                      refine XK.st (some 72) rfl rfl (sf_move (v := .d (.val (sV s0))) rfl rfl ?_)
                      refine XK.st (some 73) rfl rfl (sf_move (v := .d (.val (.int .i64 v16_2))) rfl rfl ?_)
                      obtain ⟨c18, h⟩ := gG h
                      refine XK.st (some 74) rfl rfl (sf_idxS (l := s0) (i := v16_2) rfl TT.under_9 TT.arrA_9 rfl rfl c18 ?_)
                      refine XK.st (some 75) rfl rfl (sf_toI (n := ((idx s0 v16_2).toNat : Int)) rfl TT.under_5 TT.under_3 rfl (inI_u8 _) ?_)
                      obtain ⟨c19, h⟩ := gG h
                      refine XK.st (some 76) rfl rfl (sf_add (a := ((256 : Int) * v13_3)) (b := ((idx s0 v16_2).toNat : Int)) rfl rfl rfl c19 ?_)
                      refine XK.st (some 13) rfl rfl (sf_assign (v := .d (.val (.int .i64 (((256 : Int) * v13_3) + ((idx s0 v16_2).toNat : Int))))) rfl rfl ?_)
                      refine XK.nil (blN (nrm ?_))
                      refine QW.region (Nat.zero_le _) (PW.regT (by kernel_rfl) ?_)
                      refine XK.st (some 65) rfl rfl (sf_move (v := .d (.val (.int .i64 v16_2))) rfl rfl ?_)
                      obtain ⟨c20, h⟩ := gG h
                      refine XK.st (some 66) rfl rfl (sf_add (a := v16_2) (b := (1 : Int)) rfl rfl rfl c20 ?_)
                      refine XK.st (some 16) rfl rfl (sf_assign (v := .d (.val (.int .i64 (v16_2 + (1 : Int))))) rfl rfl ?_)
                      refine XK.nil (nrm ?_)
                      exact ⟨k14, by omega, ⟨tab [(0, .d (.val (sV s0))), (1, .d (.val (.int .i64 depth1))), (2, .d (.val (.int .i64 (left2 - (1 : Int))))), (6, .vptr 0 0), (10, .vptr 1 0), (12, .d (.val (.bool (decide ((192 : Int) ≤ ((idx s0 (0 : Int)).toNat : Int)))))), (13, .d (.val (.int .i64 (((256 : Int) * v13_3) + ((idx s0 v16_2).toNat : Int))))), (15, .d (.val (.int .i64 ((((idx s0 (0 : Int)).toNat : Int).tmod (64 : Int)) - (55 : Int))))), (16, .d (.val (.int .i64 (v16_2 + (1 : Int)))))], tabH [.var [.d (.val (.bool false)), .d (.val (sV ([] : List UInt8))), .full (([] : (List Item)).map eItem)], .var [.d (.val (.bool false)), .d (.val (sV ([] : List UInt8))), .full (([] : (List Item)).map eItem)]], 2, []⟩, View.mk 2 [0, 1] _ _ _ rfl rfl (by decide) (And.intro (Imp.of_eq rfl) (And.intro (Imp.of_eq rfl) (And.intro (Imp.of_eq rfl) (And.intro (Imp.of_eq rfl) (And.intro (Imp.of_eq rfl) (And.intro (Imp.of_eq rfl) (And.intro (Imp.of_eq rfl) (And.intro (Imp.of_eq rfl) (And.intro (Imp.of_eq rfl) trivial))))))))) (And.intro rfl (And.intro rfl trivial)) rfl (Nat.zero_le _) rfl, (((256 : Int) * v13_3) + ((idx s0 v16_2).toNat : Int)), (v16_2 + (1 : Int)), by omega, jG h, rfl⟩
                  · replace h := bGF h hb15
                    refine QW.exit (Nat.zero_le _) (thX (thX (exE (nrm ?_))))
                    refine QW.seq ?_
                    refine QW.seq ?_
                    refine QW.region (Nat.zero_le _) (PW.regT (by kernel_rfl) ?_)
                    refine XK.st (some 77) rfl rfl (sf_move (v := .d (.val (.int .i64 v13_3))) rfl rfl ?_)
                    refine XK.st (some 78) rfl rfl (sf_lss (a := v13_3) (b := (56 : Int)) rfl rfl rfl ?_)
                    refine XK.nil (nrm ?_)
                    refine QW.cond (t := (decide (v13_3 < (56 : Int)))) rfl (Nat.zero_le _) (fun hb21 => ?_) (fun hb21 => ?_)
                    · replace h := bGT h hb21
                      refine QW.seq ?_
                      refine QW.region (Nat.zero_le _) (PW.regT (by kernel_rfl) ?_)
                      refine XK.as (some 79) rfl rfl (sf_ldV (v := .agg [.d (.val (.bool false)), .d (.val (sV ([] : List UInt8))), .full (([] : (List Item)).map eItem)]) rfl TT.tyA_80 rfl rfl ⟨⟨by simp, by simp⟩, rfl⟩ ⟨.d (.agg (cItem (⟨false, ([] : List UInt8), ([] : (List Item))⟩ : Item))), (Imp.toD rfl), ?_⟩)
                      refine XK.st none rfl rfl (sf_stV (l' := [.d (.val (.bool false)), .d (.val (sV ([] : List UInt8))), .d (.slice (([] : (List Item)).map eItem))]) rfl TT.tyA_80 rfl rfl rfl rfl rfl rfl (by simp) rfl ?_)
                      refine XK.st (some 7) rfl rfl (sf_assign (v := .d (.val (.int .i64 (0)))) rfl rfl ?_)
                      refine XK.st (some 8) rfl rfl (sf_assign (v := .d (.val (.int .i64 (0)))) rfl rfl ?_)
                      refine XK.st (some 9) rfl rfl (sf_assign (v := .d (.val (.int .i64 (6)))) rfl rfl ?_)
                      refine XK.nil (nrm ?_)
                      refine QW.ret (Nat.zero_le _) (thR (thR ?_))
                      obtain rfl := sG h
                      exact Ends.more (.inr rfl) rfl (ps := [.agg [.d (.val (.bool false)), .d (.val (sV ([] : List UInt8))), .d (.slice (([] : (List Item)).map eItem))], .d (.val (.int .i64 (0))), .d (.val (.int .i64 (0))), .d (.val (.int .i64 (6)))]) (And.intro (ResIs.cell rfl rfl TT.tyA_80 ⟨⟨by simp, by simp⟩, rfl⟩) (And.intro (ResIs.tmp rfl) (And.intro (ResIs.tmp rfl) (And.intro (ResIs.tmp rfl) trivial)))) rfl rfl
                    · replace h := bGF h hb21
                      refine QW.skip (Nat.zero_le _) (nrm ?_)
                      refine QW.region (Nat.zero_le _) (PW.regT (by kernel_rfl) ?_)
                      refine XK.st (some 80) rfl rfl (sf_move (v := .d (.val (.int .i64 ((((idx s0 (0 : Int)).toNat : Int).tmod (64 : Int)) - (55 : Int))))) rfl rfl ?_)
                      obtain ⟨c22, h⟩ := gG h
                      refine XK.st (some 81) rfl rfl (sf_add (a := (1 : Int)) (b := ((((idx s0 (0 : Int)).toNat : Int).tmod (64 : Int)) - (55 : Int))) rfl rfl rfl c22 ?_)
                      refine XK.st (some 14) rfl rfl (sf_assign (v := .d (.val (.int .i64 ((1 : Int) + ((((idx s0 (0 : Int)).toNat : Int).tmod (64 : Int)) - (55 : Int)))))) rfl rfl ?_)
                      refine XK.nil (nrm ?_)
                      exact ⟨⟨tab [(0, .d (.val (sV s0))), (1, .d (.val (.int .i64 depth1))), (2, .d (.val (.int .i64 (left2 - (1 : Int))))), (6, .vptr 0 0), (10, .vptr 1 0), (12, .d (.val (.bool (decide ((192 : Int) ≤ ((idx s0 (0 : Int)).toNat : Int)))))), (13, .d (.val (.int .i64 v13_3))), (14, .d (.val (.int .i64 ((1 : Int) + ((((idx s0 (0 : Int)).toNat : Int).tmod (64 : Int)) - (55 : Int))))))], tabH [.var [.d (.val (.bool false)), .d (.val (sV ([] : List UInt8))), .full (([] : (List Item)).map eItem)], .var [.d (.val (.bool false)), .d (.val (sV ([] : List UInt8))), .full (([] : (List Item)).map eItem)]], 2, []⟩, View.mk 2 [0, 1] _ _ _ rfl rfl (by decide) (And.intro (Imp.of_eq rfl) (And.intro (Imp.of_eq rfl) (And.intro (Imp.of_eq rfl) (And.intro (Imp.of_eq rfl) (And.intro (Imp.of_eq rfl) (And.intro (Imp.of_eq rfl) (And.intro (Imp.of_eq rfl) (And.intro (Imp.of_eq rfl) trivial)))))))) (And.intro rfl (And.intro rfl trivial)) rfl (Nat.zero_le _) rfl, v13_3, ((1 : Int) + ((((idx s0 (0 : Int)).toNat : Int).tmod (64 : Int)) - (55 : Int))), k14, by omega, jG h, rfl⟩
            · replace h := bGF h hb8
              refine QW.skip (Nat.zero_le _) (nrm ?_)
              exact ⟨⟨tab [(0, .d (.val (sV s0))), (1, .d (.val (.int .i64 depth1))), (2, .d (.val (.int .i64 (left2 - (1 : Int))))), (6, .vptr 0 0), (10, .vptr 1 0), (12, .d (.val (.bool (decide ((192 : Int) ≤ ((idx s0 (0 : Int)).toNat : Int)))))), (13, .d (.val (.int .i64 (((idx s0 (0 : Int)).toNat : Int).tmod (64 : Int))))), (14, .d (.val (.int .i64 (1))))], tabH [.var [.d (.val (.bool false)), .d (.val (sV ([] : List UInt8))), .full (([] : (List Item)).map eItem)], .var [.d (.val (.bool false)), .d (.val (sV ([] : List UInt8))), .full (([] : (List Item)).map eItem)]], 2, []⟩, View.mk 2 [0, 1] _ _ _ rfl rfl (by decide) (And.intro (Imp.of_eq rfl) (And.intro (Imp.of_eq rfl) (And.intro (Imp.of_eq rfl) (And.intro (Imp.of_eq rfl) (And.intro (Imp.of_eq rfl) (And.intro (Imp.of_eq rfl) (And.intro (Imp.of_eq rfl) (And.intro (Imp.of_eq rfl) trivial)))))))) (And.intro rfl (And.intro rfl trivial)) rfl (Nat.zero_le _) rfl, (((idx s0 (0 : Int)).toNat : Int).tmod (64 : Int)), 1, k0, by omega, jG h, rfl⟩
          · rintro _ ⟨v13_2, v14, k23s, k23h, h, rfl⟩
            obtain ⟨k23, rfl, h9⟩ := run_succ h; replace h := h9; clear h9
            refine QW.seq ?_
            refine QW.seq ?_
            refine QW.region (Nat.zero_le _) (PW.regT (by kernel_rfl) ?_)
            refine XK.st (some 82) rfl rfl (sf_move (v := .d (.val (.int .i64 v13_2))) rfl rfl ?_)
            refine XK.st (some 83) rfl rfl (sf_move (v := .d (.val (sV s0))) rfl rfl ?_)
            refine XK.st (some 84) rfl rfl (sf_lenS (l := s0) rfl TT.under_9 rfl ?_)
            refine XK.st (some 85) rfl rfl (sf_move (v := .d (.val (.int .i64 v14))) rfl rfl ?_)
            obtain ⟨c24, h⟩ := gG h
            refine XK.st (some 86) rfl rfl (sf_sub (a := (s0.length : Int)) (b := v14) rfl rfl rfl c24 ?_)
            refine XK.st (some 87) rfl rfl (sf_gtr (a := v13_2) (b := ((s0.length : Int) - v14)) rfl rfl rfl ?_)
            refine XK.nil (nrm ?_)
            refine QW.cond (t := (decide (((s0.length : Int) - v14) < v13_2))) rfl (Nat.zero_le _) (fun hb25 => ?_) (fun hb25 => ?_)
            · replace h := bGT h hb25
              refine QW.seq ?_
              refine QW.region (Nat.zero_le _) (PW.regT (by kernel_rfl) ?_)
              refine XK.as (some 88) rfl rfl (sf_ldV (v := .agg [.d (.val (.bool false)), .d (.val (sV ([] : List UInt8))), .full (([] : (List Item)).map eItem)]) rfl TT.tyA_80 rfl rfl ⟨⟨by simp, by simp⟩, rfl⟩ ⟨.d (.agg (cItem (⟨false, ([] : List UInt8), ([] : (List Item))⟩ : Item))), (Imp.toD rfl), ?_⟩)
              refine XK.st none rfl rfl (sf_stV (l' := [.d (.val (.bool false)), .d (.val (sV ([] : List UInt8))), .d (.slice (([] : (List Item)).map eItem))]) rfl TT.tyA_80 rfl rfl rfl rfl rfl rfl (by simp) rfl ?_)
              refine XK.st (some 7) rfl rfl (sf_assign (v := .d (.val (.int .i64 (0)))) rfl rfl ?_)
              refine XK.st (some 8) rfl rfl (sf_assign (v := .d (.val (.int .i64 (0)))) rfl rfl ?_)
              refine XK.st (some 9) rfl rfl (sf_assign (v := .d (.val (.int .i64 (5)))) rfl rfl ?_)
              refine XK.nil (nrm ?_)
              refine QW.ret (Nat.zero_le _) (thR ?_)
              obtain rfl := sG h
              exact Ends.more (.inr rfl) rfl (ps := [.agg [.d (.val (.bool false)), .d (.val (sV ([] : List UInt8))), .d (.slice (([] : (List Item)).map eItem))], .d (.val (.int .i64 (0))), .d (.val (.int .i64 (0))), .d (.val (.int .i64 (5)))]) (And.intro (ResIs.cell rfl rfl TT.tyA_80 ⟨⟨by simp, by simp⟩, rfl⟩) (And.intro (ResIs.tmp rfl) (And.intro (ResIs.tmp rfl) (And.intro (ResIs.tmp rfl) trivial)))) rfl rfl
            · replace h := bGF h hb25
              refine QW.skip (Nat.zero_le _) (nrm ?_)
              refine QW.seq ?_
              refine QW.region (Nat.zero_le _) (PW.regT (by kernel_rfl) ?_)
              refine XK.st (some 89) rfl rfl (sf_move (v := .d (.val (sV s0))) rfl rfl ?_)
              refine XK.st (some 90) rfl rfl (sf_move (v := .d (.val (.int .i64 v14))) rfl rfl ?_)
              refine XK.st (some 91) rfl rfl (sf_move (v := .d (.val (.int .i64 v14))) rfl rfl ?_)
              refine XK.st (some 92) rfl rfl (sf_move (v := .d (.val (.int .i64 v13_2))) rfl rfl ?_)
              obtain ⟨c26, h⟩ := gG h
              refine XK.st (some 93) rfl rfl (sf_add (a := v14) (b := v13_2) rfl rfl rfl c26 ?_)
              obtain ⟨c27, h⟩ := gG h
              refine XK.st (some 94) rfl rfl (sf_subS (l := s0) (a := v14) (b := (v14 + v13_2)) rfl TT.under_9 rfl rfl rfl c27 ?_)
              refine XK.st (some 17) rfl rfl (sf_assign (v := .d (.val (sV (sub s0 v14 (v14 + v13_2))))) rfl rfl ?_)
              refine XK.nil (nrm ?_)
              refine QW.seq ?_
              refine QW.seq ?_
              refine QW.region (Nat.zero_le _) (PW.regT (by kernel_rfl) ?_)
              refine XK.st (some 95) rfl rfl (sf_move (v := .d (.val (.bool (decide ((192 : Int) ≤ ((idx s0 (0 : Int)).toNat : Int)))))) rfl rfl ?_)
              refine XK.st (some 96) rfl rfl (sf_not rfl rfl ?_)
              refine XK.nil (nrm ?_)
              refine QW.cond (t := (!(decide ((192 : Int) ≤ ((idx s0 (0 : Int)).toNat : Int))))) rfl (Nat.zero_le _) (fun hb28 => ?_) (fun hb28 => ?_)
              · replace h := bGT h hb28
                refine QW.seq ?_
                refine QW.seq ?_
                refine QW.region (Nat.zero_le _) (PW.regT (by kernel_rfl) ?_)
                refine XK.st (some 97) rfl rfl (sf_move (v := .d (.val (.int .i64 v13_2))) rfl rfl ?_)
                refine XK.st (some 98) rfl rfl (sf_eq (a := v13_2) (b := (1 : Int)) rfl rfl rfl ?_)
                refine XK.st (some 99) rfl rfl (sf_move (v := .d (.val (.bool (decide (v13_2 = (1 : Int)))))) rfl rfl ?_)
                refine XK.gd (v := .d (.val (sV (sub s0 v14 (v14 + v13_2))))) (T := []) (some 100) rfl rfl (by repeat (first | exact trivial | refine And.intro (fun hg => by first | rfl | exact hg | exact (Bool.and_eq_true_iff.mp hg).1 | exact (Bool.and_eq_true_iff.mp (Bool.and_eq_true_iff.mp hg).1).1) ?_)) (fun hg => sf_move (v := .d (.val (sV (sub s0 v14 (v14 + v13_2))))) rfl rfl ⟨⟨rfl, rfl, rfl⟩, rfl, Imp.refl⟩) (fun _ _ hi => nomatch hi) ?_
                obtain ⟨c29, h⟩ := gG h
                refine XK.gd (v := .d (.val (.int .u8 ((idx (sub s0 v14 (v14 + v13_2)) (0 : Int)).toNat : Int)))) (T := []) (some 101) rfl rfl (by repeat (first | exact trivial | refine And.intro (fun hg => by first | rfl | exact hg | exact (Bool.and_eq_true_iff.mp hg).1 | exact (Bool.and_eq_true_iff.mp (Bool.and_eq_true_iff.mp hg).1).1) ?_)) (fun hg => sf_idxS (l := (sub s0 v14 (v14 + v13_2))) (i := (0 : Int)) rfl TT.under_9 TT.arrA_9 rfl rfl (c29 (eqB hg)) ⟨⟨rfl, rfl, rfl⟩, rfl, Imp.refl⟩) (fun _ _ hi => nomatch hi) ?_
                refine XK.gd (v := .d (.val (.bool (decide (((idx (sub s0 v14 (v14 + v13_2)) (0 : Int)).toNat : Int) < (128 : Int)))))) (T := []) (some 102) rfl rfl (by repeat (first | exact trivial | refine And.intro (fun hg => by first | rfl | exact hg | exact (Bool.and_eq_true_iff.mp hg).1 | exact (Bool.and_eq_true_iff.mp (Bool.and_eq_true_iff.mp hg).1).1) ?_)) (fun hg => sf_lss (a := ((idx (sub s0 v14 (v14 + v13_2)) (0 : Int)).toNat : Int)) (b := (128 : Int)) rfl rfl rfl ⟨⟨rfl, rfl, rfl⟩, rfl, Imp.refl⟩) (fun _ _ hi => nomatch hi) ?_
                refine XK.st (some 103) rfl rfl (sf_pickA rfl rfl rfl rfl (fun hb => by rw [hb]; rfl) (fun _ => rfl) ?_)
                refine XK.nil (nrm ?_)
                refine QW.cond (t := ((decide (v13_2 = (1 : Int))) && (decide (((idx (sub s0 v14 (v14 + v13_2)) (0 : Int)).toNat : Int) < (128 : Int))))) rfl (Nat.zero_le _) (fun hb30 => ?_) (fun hb30 => ?_)
                · replace h := bGT h hb30
                  refine QW.seq ?_
                  refine QW.region (Nat.zero_le _) (PW.regT (by kernel_rfl) ?_)
                  refine XK.as (some 104) rfl rfl (sf_ldV (v := .agg [.d (.val (.bool false)), .d (.val (sV ([] : List UInt8))), .full (([] : (List Item)).map eItem)]) rfl TT.tyA_80 rfl rfl ⟨⟨by simp, by simp⟩, rfl⟩ ⟨.d (.agg (cItem (⟨false, ([] : List UInt8), ([] : (List Item))⟩ : Item))), (Imp.toD rfl), ?_⟩)
                  refine XK.st none rfl rfl (sf_stV (l' := [.d (.val (.bool false)), .d (.val (sV ([] : List UInt8))), .d (.slice (([] : (List Item)).map eItem))]) rfl TT.tyA_80 rfl rfl rfl rfl rfl rfl (by simp) rfl ?_)
                  refine XK.st (some 7) rfl rfl (sf_assign (v := .d (.val (.int .i64 (0)))) rfl rfl ?_)
                  refine XK.st (some 8) rfl rfl (sf_assign (v := .d (.val (.int .i64 (0)))) rfl rfl ?_)
                  refine XK.st (some 9) rfl rfl (sf_assign (v := .d (.val (.int .i64 (6)))) rfl rfl ?_)
                  refine XK.nil (nrm ?_)
                  refine QW.ret (Nat.zero_le _) (thR (thR ?_))
                  obtain rfl := sG h
                  exact Ends.more (.inr rfl) rfl (ps := [.agg [.d (.val (.bool false)), .d (.val (sV ([] : List UInt8))), .d (.slice (([] : (List Item)).map eItem))], .d (.val (.int .i64 (0))), .d (.val (.int .i64 (0))), .d (.val (.int .i64 (6)))]) (And.intro (ResIs.cell rfl rfl TT.tyA_80 ⟨⟨by simp, by simp⟩, rfl⟩) (And.intro (ResIs.tmp rfl) (And.intro (ResIs.tmp rfl) (And.intro (ResIs.tmp rfl) trivial)))) rfl rfl
                · replace h := bGF h hb30
                  refine QW.skip (Nat.zero_le _) (nrm ?_)
                  refine QW.seq ?_
                  refine QW.region (Nat.zero_le _) (PW.regT (by kernel_rfl) ?_)
                  refine XK.st (some 105) rfl rfl (sf_move (v := .d (.val (sV (sub s0 v14 (v14 + v13_2))))) rfl rfl ?_)
                  refine XK.st (some 106) rfl rfl (sf_bld (v := .agg [.d (.val (.bool false)), .d (.val (sV (sub s0 v14 (v14 + v13_2)))), .full (([] : (List Item)).map eItem)]) rfl TT.bldA_80 (build_of rfl (fill_step (cells' := [.d (.val (.bool false)), .d (.val (sV (sub s0 v14 (v14 + v13_2)))), .full (([] : (List Item)).map eItem)]) rfl rfl rfl (Nat.le_of_ble_eq_true rfl) rfl fill_nil)) ?_)
                  refine XK.st (some 107) rfl rfl (sf_move (v := .d (.val (.int .i64 v14))) rfl rfl ?_)
                  refine XK.st (some 108) rfl rfl (sf_move (v := .d (.val (.int .i64 v13_2))) rfl rfl ?_)
                  obtain ⟨c31, h⟩ := gG h
                  refine XK.st (some 109) rfl rfl (sf_add (a := v14) (b := v13_2) rfl rfl rfl c31 ?_)
                  refine XK.st (some 110) rfl rfl (sf_move (v := .d (.val (.int .i64 (left2 - (1 : Int))))) rfl rfl ?_)
                  refine XK.st none rfl rfl (sf_stV (l' := [.d (.val (.bool false)), .d (.val (sV (sub s0 v14 (v14 + v13_2)))), .full (([] : (List Item)).map eItem)]) rfl TT.tyA_80 rfl rfl rfl rfl rfl rfl (by simp) rfl ?_)
                  refine XK.st (some 7) rfl rfl (sf_assign (v := .d (.val (.int .i64 (v14 + v13_2)))) rfl rfl ?_)
                  refine XK.st (some 8) rfl rfl (sf_assign (v := .d (.val (.int .i64 (left2 - (1 : Int))))) rfl rfl ?_)
                  refine XK.st (some 9) rfl rfl (sf_assign (v := .d (.val (.int .i64 (0)))) rfl rfl ?_)
                  refine XK.nil (nrm ?_)
                  refine QW.ret (Nat.zero_le _) (thR ?_)
                  obtain rfl := sG h
                  exact Ends.more (.inr rfl) rfl (ps := [.agg [.d (.val (.bool false)), .d (.val (sV (sub s0 v14 (v14 + v13_2)))), .full (([] : (List Item)).map eItem)], .d (.val (.int .i64 (v14 + v13_2))), .d (.val (.int .i64 (left2 - (1 : Int)))), .d (.val (.int .i64 (0)))]) (And.intro (ResIs.cell rfl rfl TT.tyA_80 ⟨⟨by simp, by simp⟩, rfl⟩) (And.intro (ResIs.tmp rfl) (And.intro (ResIs.tmp rfl) (And.intro (ResIs.tmp rfl) trivial)))) rfl rfl
              · replace h := bGF h hb28
                refine QW.skip (Nat.zero_le _) (nrm ?_)
                refine QW.seq ?_
                refine QW.region (Nat.zero_le _) (PW.regT (by kernel_rfl) ?_)
                refine XK.st (some 111) rfl rfl (sf_bld (v := .agg [.d (.val (.bool true)), .d (.val (sV ([] : List UInt8))), .full (([] : (List Item)).map eItem)]) rfl TT.bldA_80 (build_of rfl (fill_step (cells' := [.d (.val (.bool true)), .d (.val (sV ([] : List UInt8))), .full (([] : (List Item)).map eItem)]) rfl rfl rfl (Nat.le_of_ble_eq_true rfl) rfl fill_nil)) ?_)
                refine XK.st (some 18) rfl rfl (sf_alloc (l := [.d (.val (.bool false)), .d (.val (sV ([] : List UInt8))), .full (([] : (List Item)).map eItem)]) rfl TT.zeroA_80 rfl rfl ?_)
                refine XK.st none rfl rfl (sf_stV (l' := [.d (.val (.bool true)), .d (.val (sV ([] : List UInt8))), .full (([] : (List Item)).map eItem)]) rfl TT.tyA_80 rfl rfl rfl rfl rfl rfl (by simp) rfl ?_)
                refine XK.nil (nrm ?_)
                refine QW.seq ?_
                refine QW.block ?_
                refine QW.loop (fun k σ => ∃ left2_2 : Int, ∃ v13_5 : Int, ∃ v14_3 : Int, ∃ v17_2 : (List UInt8), ∃ v18_2 : (List Item), k ≤ k23 ∧ run (step_ref05_Read self s0 depth1 left2) k (.L3 left2_2 v13_5 v14_3 v17_2 v18_2) = some r ∧ σ = ⟨tab [(1, .d (.val (.int .i64 depth1))), (2, .d (.val (.int .i64 left2_2))), (6, .vptr 0 0), (10, .vptr 1 0), (13, .d (.val (.int .i64 v13_5))), (14, .d (.val (.int .i64 v14_3))), (17, .d (.val (sV v17_2))), (18, .vptr 2 0)], tabH [.var [.d (.val (.bool false)), .d (.val (sV ([] : List UInt8))), .full (([] : (List Item)).map eItem)], .var [.d (.val (.bool false)), .d (.val (sV ([] : List UInt8))), .full (([] : (List Item)).map eItem)], .var [.d (.val (.bool true)), .d (.val (sV ([] : List UInt8))), .own 3 (v18_2.map eItem)], .spare 3 v18_2.length], 4, []⟩) k23 (Nat.zero_le _) ⟨⟨tab [(1, .d (.val (.int .i64 depth1))), (2, .d (.val (.int .i64 (left2 - (1 : Int))))), (6, .vptr 0 0), (10, .vptr 1 0), (13, .d (.val (.int .i64 v13_2))), (14, .d (.val (.int .i64 v14))), (17, .d (.val (sV (sub s0 v14 (v14 + v13_2))))), (18, .vptr 2 0)], tabH [.var [.d (.val (.bool false)), .d (.val (sV ([] : List UInt8))), .full (([] : (List Item)).map eItem)], .var [.d (.val (.bool false)), .d (.val (sV ([] : List UInt8))), .full (([] : (List Item)).map eItem)], .var [.d (.val (.bool true)), .d (.val (sV ([] : List UInt8))), .own 3 (([] : (List Item)).map eItem)], .spare 3 ([] : (List Item)).length], 4, []⟩, View.trans (View.bufV 2 2 3 rfl rfl (Nat.zero_le _)) (View.mk 4 [0, 1, 2, 3] _ _ _ rfl rfl (by decide) (And.intro (Imp.of_eq rfl) (And.intro (Imp.of_eq rfl) (And.intro (Imp.of_eq rfl) (And.intro (Imp.of_eq rfl) (And.intro (Imp.of_eq rfl) (And.intro (Imp.of_eq rfl) (And.intro (Imp.of_eq rfl) (And.intro (Imp.of_eq rfl) trivial)))))))) (And.intro rfl (And.intro rfl (And.intro rfl (And.intro rfl trivial)))) rfl (Nat.zero_le _) rfl), (left2 - (1 : Int)), v13_2, v14, (sub s0 v14 (v14 + v13_2)), ([] : (List Item)), Nat.le_refl _, jG h, rfl⟩ ?_
                rintro k32s _ ⟨left2_2, v13_5, v14_3, v17_2, v18_2, k32h, h, rfl⟩
                obtain ⟨k32, rfl, h9⟩ := run_succ h; replace h := h9; clear h9
                refine QW.seq ?_
                refine QW.seq ?_
                refine QW.region (Nat.zero_le _) (PW.regT (by kernel_rfl) ?_)
                refine XK.st (some 112) rfl rfl (sf_move (v := .d (.val (sV v17_2))) rfl rfl ?_)
                refine XK.st (some 113) rfl rfl (sf_sne (a := v17_2) (b := ([] : List UInt8)) rfl rfl rfl ?_)
                refine XK.nil (nrm ?_)
                refine QW.cond (t := (!(v17_2 == ([] : List UInt8)))) rfl (Nat.zero_le _) (fun hb33 => ?_) (fun hb33 => ?_)
                · replace h := bGT h hb33
                  refine QW.skip (Nat.zero_le _) (nrm ?_)
                  refine QW.block ?_
                  refine QW.seq ?_
                  refine QW.region (Nat.zero_le _) (PW.regT (by kernel_rfl) ?_)
                  refine XK.st (some 115) rfl rfl (sf_move (v := .d (.val (sV v17_2))) rfl rfl ?_)
                  refine XK.st (some 116) rfl rfl (sf_move (v := .d (.val (.int .i64 depth1))) rfl rfl ?_)
                  obtain ⟨c34, h⟩ := gG h
                  refine XK.st (some 117) rfl rfl (sf_add (a := depth1) (b := (1 : Int)) rfl rfl rfl c34 ?_)
                  refine XK.st (some 118) rfl rfl (sf_move (v := .d (.val (.int .i64 left2_2))) rfl rfl ?_)
                  obtain ⟨x35, hx36, h⟩ := bG h
                  refine XK.st (some 119) rfl rfl (sf_call rfl rfl TT.enters_81 rfl (hself v17_2 (depth1 + (1 : Int)) left2_2 _ hx36) ?_)
                  refine XK.st (some 114) rfl rfl (sf_move (v := .d (.tuple [.agg (cItem (x35.1)), .val (.int .i64 (x35.2.1)), .val (.int .i64 (x35.2.2.1)), .val (.int .i64 (x35.2.2.2))])) rfl rfl ?_)
                  refine XK.st (some 120) rfl rfl (sf_extract rfl rfl rfl ?_)
                  refine XK.st (some 121) rfl rfl (sf_extract rfl rfl rfl ?_)
                  refine XK.st (some 122) rfl rfl (sf_extract rfl rfl rfl ?_)
                  refine XK.st (some 123) rfl rfl (sf_extract rfl rfl rfl ?_)
                  refine XK.st (some 19) rfl rfl (sf_alloc (l := [.d (.val (.bool false)), .d (.val (sV ([] : List UInt8))), .full (([] : (List Item)).map eItem)]) rfl TT.zeroA_80 rfl rfl ?_)
                  refine XK.st none rfl rfl (sf_stV (l' := [.d (.val (.bool ((x35.1).fList))), .d (.val (sV ((x35.1).fS))), .d (.slice (((x35.1).fL).map eItem))]) rfl TT.tyA_80 rfl rfl rfl rfl rfl rfl (by simp) rfl ?_)
                  refine XK.st (some 20) rfl rfl (sf_assign (v := .d (.val (.int .i64 (x35.2.1)))) rfl rfl ?_)
                  refine XK.st (some 21) rfl rfl (sf_assign (v := .d (.val (.int .i64 (x35.2.2.1)))) rfl rfl ?_)
                  refine XK.st (some 22) rfl rfl (sf_assign (v := .d (.val (.int .i64 (x35.2.2.2)))) rfl rfl ?_)
                  refine XK.nil (nrm ?_)
                  refine QW.seq ?_
                  refine QW.seq ?_
                  refine QW.view (s' := ⟨tab [(1, .d (.val (.int .i64 depth1))), (6, .vptr 0 0), (10, .vptr 1 0), (13, .d (.val (.int .i64 v13_5))), (14, .d (.val (.int .i64 v14_3))), (17, .d (.val (sV v17_2))), (18, .vptr 2 0), (19, .vptr 4 0), (20, .d (.val (.int .i64 (x35.2.1)))), (21, .d (.val (.int .i64 (x35.2.2.1)))), (22, .d (.val (.int .i64 (x35.2.2.2))))], tabH [.var [.d (.val (.bool false)), .d (.val (sV ([] : List UInt8))), .full (([] : (List Item)).map eItem)], .var [.d (.val (.bool false)), .d (.val (sV ([] : List UInt8))), .full (([] : (List Item)).map eItem)], .var [.d (.val (.bool true)), .d (.val (sV ([] : List UInt8))), .own 3 (v18_2.map eItem)], .spare 3 v18_2.length, .var [.d (.val (.bool ((x35.1).fList))), .d (.val (sV ((x35.1).fS))), .d (.slice (((x35.1).fL).map eItem))]], 5, []⟩) (View.mk 5 [0, 1, 2, 3, 4] _ _ _ rfl rfl (by decide) (And.intro (Imp.of_eq rfl) (And.intro (Imp.of_eq rfl) (And.intro (Imp.of_eq rfl) (And.intro (Imp.of_eq rfl) (And.intro (Imp.of_eq rfl) (And.intro (Imp.of_eq rfl) (And.intro (Imp.of_eq rfl) (And.intro (Imp.of_eq rfl) (And.intro (Imp.of_eq rfl) (And.intro (Imp.of_eq rfl) (And.intro (Imp.of_eq rfl) trivial))))))))))) (And.intro rfl (And.intro rfl (And.intro rfl (And.intro rfl (And.intro rfl trivial))))) rfl (Nat.zero_le _) rfl) (Nat.zero_le _) ?_
                  refine QW.region (Nat.zero_le _) (PW.regT (by kernel_rfl) ?_)
                  refine XK.st (some 124) rfl rfl (sf_move (v := .d (.val (.int .i64 (x35.2.2.2)))) rfl rfl ?_)
                  refine XK.st (some 125) rfl rfl (sf_ne (a := (x35.2.2.2)) (b := (0 : Int)) rfl rfl rfl ?_)
                  refine XK.nil (nrm ?_)
                  refine QW.cond (t := (!decide ((x35.2.2.2) = (0 : Int)))) rfl (Nat.zero_le _) (fun hb37 => ?_) (fun hb37 => ?_)
                  · replace h := bGT h hb37
                    refine QW.seq ?_
                    refine QW.region (Nat.zero_le _) (PW.regT (by kernel_rfl) ?_)
                    refine XK.as (some 126) rfl rfl (sf_ldV (v := .agg [.d (.val (.bool false)), .d (.val (sV ([] : List UInt8))), .full (([] : (List Item)).map eItem)]) rfl TT.tyA_80 rfl rfl ⟨⟨by simp, by simp⟩, rfl⟩ ⟨.d (.agg (cItem (⟨false, ([] : List UInt8), ([] : (List Item))⟩ : Item))), (Imp.toD rfl), ?_⟩)
                    refine XK.st (some 127) rfl rfl (sf_move (v := .d (.val (.int .i64 (x35.2.2.2)))) rfl rfl ?_)
                    refine XK.st none rfl rfl (sf_stV (l' := [.d (.val (.bool false)), .d (.val (sV ([] : List UInt8))), .d (.slice (([] : (List Item)).map eItem))]) rfl TT.tyA_80 rfl rfl rfl rfl rfl rfl (by simp) rfl ?_)
                    refine XK.st (some 7) rfl rfl (sf_assign (v := .d (.val (.int .i64 (0)))) rfl rfl ?_)
                    refine XK.st (some 8) rfl rfl (sf_assign (v := .d (.val (.int .i64 (0)))) rfl rfl ?_)
                    refine XK.st (some 9) rfl rfl (sf_assign (v := .d (.val (.int .i64 (x35.2.2.2)))) rfl rfl ?_)
                    refine XK.nil (nrm ?_)
                    refine QW.ret (Nat.zero_le _) (thR (blR (thR (blR (thR ?_)))))
                    obtain rfl := sG h
                    exact Ends.more (.inr rfl) rfl (ps := [.agg [.d (.val (.bool false)), .d (.val (sV ([] : List UInt8))), .d (.slice (([] : (List Item)).map eItem))], .d (.val (.int .i64 (0))), .d (.val (.int .i64 (0))), .d (.val (.int .i64 (x35.2.2.2)))]) (And.intro (ResIs.cell rfl rfl TT.tyA_80 ⟨⟨by simp, by simp⟩, rfl⟩) (And.intro (ResIs.tmp rfl) (And.intro (ResIs.tmp rfl) (And.intro (ResIs.tmp rfl) trivial)))) rfl rfl
                  · replace h := bGF h hb37
                    refine QW.skip (Nat.zero_le _) (nrm ?_)
                    refine QW.seq ?_
                    refine QW.region (Nat.zero_le _) (PW.regT (by kernel_rfl) ?_)
                    refine XK.st (some 128) rfl rfl (sf_fldV rfl TT.fldA_80_2 (by decide) rfl ?_)
                    refine XK.st (some 129) rfl rfl (sf_ldV (v := .own 3 (v18_2.map eItem)) rfl TT.tyA_78 rfl rfl ⟨⟨by simp, by simp⟩, rfl⟩ ?_)
                    refine XK.as (some 130) rfl rfl (sf_ldV (v := .agg [.d (.val (.bool ((x35.1).fList))), .d (.val (sV ((x35.1).fS))), .d (.slice (((x35.1).fL).map eItem))]) rfl TT.tyA_80 rfl rfl ⟨⟨by simp, by simp⟩, rfl⟩ ⟨.d (.agg (cItem (x35.1))), (Imp.toD rfl), ?_⟩)
                    refine XK.st (some 131) rfl rfl (sf_row (en := eItem) (l := ([x35.1] : List Item)) rfl TT.rowA_78 lay_Item (by first | rfl | (simp only [List.map_cons, List.map_nil, eItem_eq]; rfl)) rfl (by decide) (by simp [solids, partsP, evP, PV.solid, putS_at, tab, unS, unT, unC, asCond, Value.oneCell']) ?_)
                    obtain ⟨c38, h⟩ := gG h
                    refine XK.st (some 132) rfl rfl (sf_appO (en := eItem) (l := v18_2) (l2 := ([x35.1] : List Item)) rfl TT.rowA_78 TT.under_78 rfl lay_Item rfl rfl rfl c38 (by decide) ?_)
                    refine XK.st (some 133) rfl rfl (sf_fldV rfl TT.fldA_80_2 (by decide) rfl ?_)
                    refine XK.st none rfl rfl (sf_stV (l' := [.d (.val (.bool true)), .d (.val (sV ([] : List UInt8))), .own 5 ((v18_2 ++ ([x35.1] : List Item)).map eItem)]) rfl TT.tyA_78 rfl rfl rfl rfl rfl rfl (by simp) rfl ?_)
                    refine XK.nil (nrm ?_)
                    refine QW.seq ?_
                    refine QW.region (Nat.zero_le _) (PW.regT (by kernel_rfl) ?_)
                    refine XK.st (some 134) rfl rfl (sf_move (v := .d (.val (.int .i64 (x35.2.2.1)))) rfl rfl ?_)
                    refine XK.st (some 2) rfl rfl (sf_assign (v := .d (.val (.int .i64 (x35.2.2.1)))) rfl rfl ?_)
                    refine XK.nil (nrm ?_)
                    refine QW.region (Nat.zero_le _) (PW.regT (by kernel_rfl) ?_)
                    refine XK.st (some 135) rfl rfl (sf_move (v := .d (.val (sV v17_2))) rfl rfl ?_)
                    refine XK.st (some 136) rfl rfl (sf_move (v := .d (.val (.int .i64 (x35.2.1)))) rfl rfl ?_)
                    obtain ⟨c39, h⟩ := gG h
                    refine XK.st (some 137) rfl rfl (sf_subS (l := v17_2) (a := (x35.2.1)) (b := (v17_2.length : Int)) rfl TT.under_9 rfl rfl rfl c39 ?_)
                    refine XK.st (some 17) rfl rfl (sf_assign (v := .d (.val (sV (sub v17_2 (x35.2.1) (v17_2.length : Int))))) rfl rfl ?_)
                    refine XK.nil (blN (nrm ?_))
                    exact ⟨k32, by omega, ⟨tab [(1, .d (.val (.int .i64 depth1))), (2, .d (.val (.int .i64 (x35.2.2.1)))), (6, .vptr 0 0), (10, .vptr 1 0), (13, .d (.val (.int .i64 v13_5))), (14, .d (.val (.int .i64 v14_3))), (17, .d (.val (sV (sub v17_2 (x35.2.1) (v17_2.length : Int))))), (18, .vptr 2 0)], tabH [.var [.d (.val (.bool false)), .d (.val (sV ([] : List UInt8))), .full (([] : (List Item)).map eItem)], .var [.d (.val (.bool false)), .d (.val (sV ([] : List UInt8))), .full (([] : (List Item)).map eItem)], .var [.d (.val (.bool true)), .d (.val (sV ([] : List UInt8))), .own 3 ((v18_2 ++ ([x35.1] : List Item)).map eItem)], .spare 3 (v18_2 ++ ([x35.1] : List Item)).length], 4, []⟩, View.mk 4 [0, 1, 2, 5] _ _ _ rfl rfl (by decide) (And.intro (Imp.of_eq rfl) (And.intro (Imp.of_eq rfl) (And.intro (Imp.of_eq rfl) (And.intro (Imp.of_eq rfl) (And.intro (Imp.of_eq rfl) (And.intro (Imp.of_eq rfl) (And.intro (Imp.of_eq rfl) (And.intro (Imp.of_eq rfl) trivial)))))))) (And.intro rfl (And.intro rfl (And.intro rfl (And.intro rfl trivial)))) rfl (Nat.zero_le _) rfl, x35.2.2.1, v13_5, v14_3, (sub v17_2 (x35.2.1) (v17_2.length : Int)), (v18_2 ++ ([x35.1] : List Item)), by omega, jG h, rfl⟩
                · replace h := bGF h hb33
                  refine QW.exit (Nat.zero_le _) (thX (thX (exE (nrm ?_))))
                  refine QW.seq ?_
                  refine QW.region (Nat.zero_le _) (PW.regT (by kernel_rfl) ?_)
                  refine XK.st (some 138) rfl rfl (sf_ldV (v := .agg [.d (.val (.bool true)), .d (.val (sV ([] : List UInt8))), .own 3 (v18_2.map eItem)]) rfl TT.tyA_80 rfl rfl ⟨⟨by simp, by simp⟩, rfl⟩ ?_)
                  refine XK.st (some 139) rfl rfl (sf_move (v := .d (.val (.int .i64 v14_3))) rfl rfl ?_)
                  refine XK.st (some 140) rfl rfl (sf_move (v := .d (.val (.int .i64 v13_5))) rfl rfl ?_)
                  obtain ⟨c40, h⟩ := gG h
                  refine XK.st (some 141) rfl rfl (sf_add (a := v14_3) (b := v13_5) rfl rfl rfl c40 ?_)
                  refine XK.st (some 142) rfl rfl (sf_move (v := .d (.val (.int .i64 left2_2))) rfl rfl ?_)
                  refine XK.st none rfl rfl (sf_stV (l' := [.d (.val (.bool true)), .d (.val (sV ([] : List UInt8))), .own 3 (v18_2.map eItem)]) rfl TT.tyA_80 rfl rfl rfl rfl rfl rfl (by simp) rfl ?_)
                  refine XK.st (some 7) rfl rfl (sf_assign (v := .d (.val (.int .i64 (v14_3 + v13_5)))) rfl rfl ?_)
                  refine XK.st (some 8) rfl rfl (sf_assign (v := .d (.val (.int .i64 left2_2))) rfl rfl ?_)
                  refine XK.st (some 9) rfl rfl (sf_assign (v := .d (.val (.int .i64 (0)))) rfl rfl ?_)
                  refine XK.nil (nrm ?_)
                  refine QW.ret (Nat.zero_le _) ?_
                  obtain rfl := sG h
                  exact Ends.more (.inr rfl) rfl (ps := [.agg [.d (.val (.bool true)), .d (.val (sV ([] : List UInt8))), .own 3 (v18_2.map eItem)], .d (.val (.int .i64 (v14_3 + v13_5))), .d (.val (.int .i64 left2_2)), .d (.val (.int .i64 (0)))]) (And.intro (ResIs.cell rfl rfl TT.tyA_80 ⟨⟨by simp, by simp⟩, rfl⟩) (And.intro (ResIs.tmp rfl) (And.intro (ResIs.tmp rfl) (And.intro (ResIs.tmp rfl) trivial)))) rfl rfl

noncomputable def rec_ref05_Read : Nat → (List UInt8) → Int → Int → Option (Item × Int × Int × Int)
  | 0 => fun _ _ _ => none
  | n + 1 => fun y0 y1 y2 => gs_ref05_Read (rec_ref05_Read n) y0 y1 y2

theorem simr_ref05_Read : ∀ (n : Nat) (y0 : (List UInt8)) (y1 : Int) (y2 : Int) (rr : (Item × Int × Int × Int)), rec_ref05_Read n y0 y1 y2 = some rr → Fun Try.prog 81 [.val (sV y0), .val (.int .i64 y1), .val (.int .i64 y2)] (.tuple [.agg (cItem (rr.1)), .val (.int .i64 (rr.2.1)), .val (.int .i64 (rr.2.2.1)), .val (.int .i64 (rr.2.2.2))])
  | 0, _, _, _, _, h => by cases h
  | n + 1, y0, y1, y2, rr, h => sims_ref05_Read (rec_ref05_Read n) (simr_ref05_Read n) y0 y1 y2 rr h

noncomputable def g_ref05_Read (y0 : (List UInt8)) (y1 : Int) (y2 : Int) : Option (Item × Int × Int × Int) := theR (fun n => rec_ref05_Read n y0 y1 y2)

theorem sim_ref05_Read (y0 : (List UInt8)) (y1 : Int) (y2 : Int) (rr : (Item × Int × Int × Int)) (h : g_ref05_Read y0 y1 y2 = some rr) : Fun Try.prog 81 [.val (sV y0), .val (.int .i64 y1), .val (.int .i64 y2)] (.tuple [.agg (cItem (rr.1)), .val (.int .i64 (rr.2.1)), .val (.int .i64 (rr.2.2.1)), .val (.int .i64 (rr.2.2.2))]) := by
  obtain ⟨n, hn⟩ := theR_get h
  exact simr_ref05_Read n y0 y1 y2 rr hn

end Go.Proofs.Ytonlehebfeilmaa.K
