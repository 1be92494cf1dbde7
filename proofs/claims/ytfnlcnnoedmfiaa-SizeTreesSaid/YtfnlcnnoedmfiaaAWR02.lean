/- The references of layers 01 and 02: what they reckon. -/
import Derived.Test.YtfnlcnnoedmfiaaAKO
import Derived.Test.YtfnlcnnoedmfiaaRows
import Derived.KernelRfl
namespace Go.Proofs.Ytfnlcnnoedmfiaa.K
open Go Go.RowKit
set_option linter.unusedSimpArgs false
set_option linter.unusedVariables false
set_option maxRecDepth 20000
set_option maxHeartbeats 4000000
namespace TT
theorem arrA_24 : arrA Try.prog 24 = some (32, 1, false) := by kernel_rfl
theorem res_19 : Try.f19.results.toList = [.tmp 4] := rfl
theorem res_33 : Try.f33.results.toList = [.tmp 4] := rfl
theorem res_36 : Try.f36.results.toList = [.tmp 4] := rfl
theorem res_37 : Try.f37.results.toList = [.tmp 4] := rfl
theorem res_9 : Try.f9.results.toList = [.tmp 2] := rfl
theorem rowA_32 : rowA Try.prog 32 = some (1, 1) := by kernel_rfl
theorem slcA_24 : slcA Try.prog 24 = none := by kernel_rfl
theorem slcA_32 : slcA Try.prog 32 = some (1, 1, false) := by kernel_rfl
theorem tyA_5 : tyA Try.prog 5 = some (false, 1) := by kernel_rfl
theorem under_3 : Program.underlying Try.prog 3 = some (.int .i64) := by kernel_rfl
theorem under_32 : Program.underlying Try.prog 32 = some (.slice 5) := by kernel_rfl
theorem under_5 : Program.underlying Try.prog 5 = some (.int .u8) := by kernel_rfl
theorem under_9 : Program.underlying Try.prog 9 = some (.string) := by kernel_rfl
end TT
theorem mixedX : Try.prog.follows .mixedOrders = true := by kernel_rfl
structure Pair where
  fKey : (Arr 32 UInt8)
  fValue : (List UInt8)
  deriving Inhabited
def cPair (x : Pair) : List D := ((x.fKey).1.map byteD) ++ [.val (sV (x.fValue))]
def ePair (x : Pair) : D := .agg (cPair x)
theorem ePair_eq (x : Pair) : ePair x = .agg (cPair x) := rfl
theorem lay_Pair : Lay ePair cPair 33 := ⟨fun _ => rfl, fun x => by simp [cPair, x.fKey.2]⟩
theorem ldc_Pair_0 (x : Pair) : LdC true 32 ((cPair x).drop 0) (.agg ((x.fKey).1.map byteD)) := ldc_first (show ((x.fKey).1.map byteD).length = 32 by rw [List.length_map, x.fKey.2])
theorem spl_Pair_0 (x : Pair) (v : (Arr 32 UInt8)) : spl ((cPair x).map PV.d) 0 ((v.1.map byteD).map PV.d) = (cPair { x with fKey := v }).map PV.d := spl_first (show ((x.fKey).1.map byteD).length = 32 by rw [List.length_map, x.fKey.2]) (show (v.1.map byteD).length = 32 by rw [List.length_map, v.2])
theorem ldc_Pair_1 (x : Pair) : LdC false 1 ((cPair x).drop 32) (.val (sV (x.fValue))) := ldc_skip 32 0 (show ((x.fKey).1.map byteD).length = 32 by rw [List.length_map, x.fKey.2]) (LdC.one)
theorem spl_Pair_1 (x : Pair) (v : (List UInt8)) : spl ((cPair x).map PV.d) 32 [PV.d (.val (sV v))] = (cPair { x with fValue := v }).map PV.d := spl_skip 32 0 (show ((x.fKey).1.map byteD).length = 32 by rw [List.length_map, x.fKey.2]) rfl
structure In where
  fPath : (List UInt8)
  fValue : (List UInt8)
  deriving Inhabited
def cIn (x : In) : List D := ([.slice ((x.fPath).map byteD), .val (sV (x.fValue))])
def eIn (x : In) : D := .agg (cIn x)
theorem eIn_eq (x : In) : eIn x = .agg (cIn x) := rfl
theorem lay_In : Lay eIn cIn 2 := ⟨fun _ => rfl, fun _ => rfl⟩
structure Node where
  fKind : Int
  fPath : (List UInt8)
  fValue : (List UInt8)
  fKids : (Arr 16 (List UInt8))
  deriving Inhabited
def cNode (x : Node) : List D := ([.val (.int .i64 (x.fKind)), .slice ((x.fPath).map byteD), .val (sV (x.fValue))]) ++ ((x.fKids).1.map eS)
def eNode (x : Node) : D := .agg (cNode x)
theorem eNode_eq (x : Node) : eNode x = .agg (cNode x) := rfl
theorem lay_Node : Lay eNode cNode 19 := ⟨fun _ => rfl, fun x => by simp [cNode, x.fKids.2]⟩
theorem ldc_Node_0 (x : Node) : LdC false 1 ((cNode x).drop 0) (.val (.int .i64 (x.fKind))) := LdC.one
theorem ldc_Node_1 (x : Node) : LdC false 1 ((cNode x).drop 1) (.slice ((x.fPath).map byteD)) := LdC.one
theorem ldc_Node_2 (x : Node) : LdC false 1 ((cNode x).drop 2) (.val (sV (x.fValue))) := LdC.one
theorem pre_Node_3 (x : Node) : Pre ((cNode x).drop 3) eS x.fKids := pre_skip 3 0 rfl (Pre.all _)
structure Item where
  fList : Bool
  fS : (List UInt8)
  fL : (List Item)
instance : Inhabited Item := ⟨⟨default, default, []⟩⟩
mutual
def eItem : Item → D
  | ⟨x0, x1, x2⟩ => .agg [.val (.bool x0), .val (sV x1), .slice (eItems x2)]
def eItems : List Item → List D
  | [] => []
  | x :: r => eItem x :: eItems r
end
theorem eItems_map : ∀ l : List Item, eItems l = l.map eItem
  | [] => by simp [eItems]
  | x :: r => by simp [eItems, eItems_map r]
def cItem (x : Item) : List D := ([.val (.bool (x.fList)), .val (sV (x.fS)), .slice ((x.fL).map eItem)])
theorem eItem_eq (x : Item) : eItem x = .agg (cItem x) := by
  cases x; simp [eItem, cItem, eItems_map]
theorem lay_Item : Lay eItem cItem 3 := ⟨fun x => by rw [eItem_eq]; rfl, fun _ => rfl⟩
inductive C_ref02_Path where
  | S
  | L1 (v3 : (List UInt8)) (v4 : Int)
noncomputable def step_ref02_Path (k0 : (Arr 32 UInt8)) : C_ref02_Path → Option (C_ref02_Path ⊕ (List UInt8))
  | .S =>
    some (.inl (.L1 ([] : (List UInt8)) (0)))
  | .L1 v3 v4 =>
    (bif (decide (v4 < (64 : Int))) then
    gO ((2 : Int) ≠ 0 ∧ inI (v4.tdiv (2 : Int))) (
    gO (0 ≤ (v4.tdiv (2 : Int)) ∧ (v4.tdiv (2 : Int)) < ((32 : Nat) : Int)) (
    (((bif (decide ((v4.tmod (2 : Int)) = (0 : Int))) then
    some ((idx k0.1 (v4.tdiv (2 : Int))) / (16 : UInt8))
    else
    some (idx k0.1 (v4.tdiv (2 : Int)))) : Option UInt8).bind fun (v5_6 : UInt8) =>
    gO ((v3.length + ([(v5_6 % (16 : UInt8))] : List UInt8).length) * 1 ≤ 140737488355328) (
    gO (inI (v4 + (1 : Int))) (
    some (.inl (.L1 (v3 ++ ([(v5_6 % (16 : UInt8))] : List UInt8)) (v4 + (1 : Int)))))))))
    else
    some (.inr v3))
noncomputable def g_ref02_Path (k0 : (Arr 32 UInt8)) : Option (List UInt8) := theC (step_ref02_Path k0) .S
theorem sim_ref02_Path (k0 : (Arr 32 UInt8)) (r : (List UInt8)) (h : g_ref02_Path k0 = some r) : Fun Try.prog 9 [.agg (k0.1.map byteD)] (.slice (r.map byteD)) := by
  refine Fun.of_bodyQ Try.func9 rfl (by simp [Try.ntmps9]) ?_
  rw [Try.ntmps9, TT.res_9]
  refine QW.view (s' := ⟨tab [(0, .d (.agg (k0.1.map byteD)))], tabH [], 0, []⟩) (View.init (by rfl)) zL ?_
  replace h := theC_get h
  obtain ⟨_, h⟩ := h
  obtain ⟨k_0, rfl, h9⟩ := run_succ h; replace h := h9; clear h9; rw [step_ref02_Path] at h
  refine sR ?_
  refine XK.fz (some 1) rfl rfl (sf_boxF (ds := k0.1.map byteD) rfl rfl rfl rfl toDs_map ?_)
  refine xz 2 (.full (([] : (List UInt8)).map byteD)) ?_
  refine sR ?_
  refine xz 3 (.full (([] : (List UInt8)).map byteD)) ?_
  refine QW.seq ?_
  refine sR ?_
  refine xz 4 (pI (0)) ?_
  refine QW.block ?_
  refine QW.loop (fun k σ => ∃ v3 : (List UInt8), ∃ v4 : Int, k ≤ k_0 ∧ run (step_ref02_Path k0) k (.L1 v3 v4) = some r ∧ σ = ⟨tab [(1, .d (.cptr (k0.1.map byteD))), (3, .own 0 (v3.map byteD)), (4, pI v4)], tabH [.spare 1 v3.length], 1, []⟩) k_0 zL ⟨⟨tab [(1, .d (.cptr (k0.1.map byteD))), (3, .own 0 (([] : (List UInt8)).map byteD)), (4, pI (0))], tabH [.spare 1 ([] : (List UInt8)).length], 1, []⟩, View.trans (View.buf 3 1 rfl zL) (View.mk 1 [0] _ _ _ rfl rfl (by decide) (iC (iC (iC trivial))) (And.intro rfl trivial) rfl zL rfl), ([] : (List UInt8)), 0, Nat.le_refl _, jG h, rfl⟩ ?_
  rintro k_1s _ ⟨v3, v4, k_1h, h, rfl⟩
  obtain ⟨k_1, rfl, h9⟩ := run_succ h; replace h := h9; clear h9; rw [step_ref02_Path] at h
  refine QW.seq ?_
  refine sR ?_
  refine xm 6 (pI v4) ?_
  refine xs 7 rfl (sf_lss (a := v4) (b := (64 : Int)) rfl rfl rfl ?_)
  refine XK.nz ?_
  refine QW.cond (t := (decide (v4 < (64 : Int)))) rfl zL (fun hb_2 => ?_) (fun hb_2 => ?_)
  · replace h := bGT h hb_2
    refine QW.skip zL (nrm ?_)
    refine QW.seq ?_
    refine QW.block ?_
    refine sR ?_
    refine xm 10 (pI v4) ?_
    obtain ⟨c_3, h⟩ := gG h
    refine xs 11 rfl (sf_quo (a := v4) (b := (2 : Int)) rfl rfl rfl c_3 ?_)
    obtain ⟨c_4, h⟩ := gG h
    refine xs 12 rfl (sf_idxC (i := (v4.tdiv (2 : Int))) rfl TT.slcA_24 TT.arrA_24 rfl rfl c_4 ?_)
    refine xs 13 rfl (sf_ldC (d := .val (.int .u8 ((idx k0.1 (v4.tdiv (2 : Int))).toNat : Int))) rfl TT.tyA_5 rfl (ld_arr (Pre.all _) c_4) ?_)
    refine xz 5 (.d (.val (.int .u8 ((idx k0.1 (v4.tdiv (2 : Int))).toNat : Int)))) ?_
    obtain ⟨v5_6, hq, h⟩ := bG h
    refine QW.seqI (fun s' => s' = ⟨tab [(1, .d (.cptr (k0.1.map byteD))), (3, .own 0 (v3.map byteD)), (4, pI v4), (5, .d (.val (.int .u8 (v5_6.toNat : Int))))], tabH [.spare 1 v3.length], 1, []⟩) ?_ ?_
    · replace h := hq; clear hq
      refine sR ?_
      refine xm 14 (pI v4) ?_
      refine xs 15 rfl (sf_rem (a := v4) (b := (2 : Int)) rfl rfl rfl (by decide) ?_)
      refine xs 16 rfl (sf_eq (a := (v4.tmod (2 : Int))) (b := (0 : Int)) rfl rfl rfl ?_)
      refine XK.nz ?_
      refine QW.cond (t := (decide ((v4.tmod (2 : Int)) = (0 : Int)))) rfl zL (fun hb_5 => ?_) (fun hb_5 => ?_)
      · replace h := bT h hb_5
        refine rG ?_
        refine xm 17 (.d (.val (.int .u8 ((idx k0.1 (v4.tdiv (2 : Int))).toNat : Int)))) ?_
        refine xs 18 rfl (sf_u8quo (p := (idx k0.1 (v4.tdiv (2 : Int)))) (q := (16 : UInt8)) rfl rfl rfl (by decide) ?_)
        refine xz 5 (.d (.val (.int .u8 (((idx k0.1 (v4.tdiv (2 : Int))) / (16 : UInt8)).toNat : Int)))) ?_
        obtain rfl := sO h
        exact ⟨⟨tab [(1, .d (.cptr (k0.1.map byteD))), (3, .own 0 (v3.map byteD)), (4, pI v4), (5, .d (.val (.int .u8 (((idx k0.1 (v4.tdiv (2 : Int))) / (16 : UInt8)).toNat : Int))))], tabH [.spare 1 v3.length], 1, []⟩, View.mk 1 [0] _ _ _ rfl rfl (by decide) (iC (iC (iC (iC trivial)))) (And.intro rfl trivial) rfl zL rfl, rfl⟩
      · replace h := bF h hb_5
        refine QW.skip zL (nrm ?_)
        obtain rfl := sO h
        exact ⟨⟨tab [(1, .d (.cptr (k0.1.map byteD))), (3, .own 0 (v3.map byteD)), (4, pI v4), (5, .d (.val (.int .u8 ((idx k0.1 (v4.tdiv (2 : Int))).toNat : Int))))], tabH [.spare 1 v3.length], 1, []⟩, View.mk 1 [0] _ _ _ rfl rfl (by decide) (iC (iC (iC (iC trivial)))) (And.intro rfl trivial) rfl zL rfl, rfl⟩
    · rintro _ rfl
      refine rG ?_
      refine xm 19 (.own 0 (v3.map byteD)) ?_
      refine xm 20 (.d (.val (.int .u8 (v5_6.toNat : Int)))) ?_
      refine xs 21 rfl (sf_u8rem (p := v5_6) (q := (16 : UInt8)) rfl rfl rfl (by decide) ?_)
      refine xs 22 rfl (sf_row (en := byteD) (l := ([(v5_6 % (16 : UInt8))] : List UInt8)) rfl TT.rowA_32 lay_byte rfl rfl (by decide) (by simp [solids, partsP, evP, ofVal, PV.solid, putS_at, tab, unS, unT, unC, asCond, Value.oneCell']) ?_)
      obtain ⟨c_6, h⟩ := gG h
      refine xs 23 rfl (sf_appO (en := byteD) (l := v3) (l2 := ([(v5_6 % (16 : UInt8))] : List UInt8)) rfl TT.rowA_32 TT.under_32 rfl lay_byte rfl rfl rfl c_6 (by decide) ?_)
      refine xa 3 (.own 1 ((v3 ++ ([(v5_6 % (16 : UInt8))] : List UInt8)).map byteD)) ?_
      refine XK.nil (blN (nrm ?_))
      refine rG ?_
      refine xm 8 (pI v4) ?_
      obtain ⟨c_7, h⟩ := gG h
      refine xs 9 rfl (sf_add (a := v4) (b := (1 : Int)) rfl rfl rfl c_7 ?_)
      refine xz 4 (pI (v4 + (1 : Int))) ?_
      exact ⟨k_1, by omega, ⟨tab [(1, .d (.cptr (k0.1.map byteD))), (3, .own 0 ((v3 ++ ([(v5_6 % (16 : UInt8))] : List UInt8)).map byteD)), (4, pI (v4 + (1 : Int)))], tabH [.spare 1 (v3 ++ ([(v5_6 % (16 : UInt8))] : List UInt8)).length], 1, []⟩, View.mk 1 [1] _ _ _ rfl rfl (by decide) (iC (iC (iC trivial))) (And.intro rfl trivial) rfl zL rfl, (v3 ++ ([(v5_6 % (16 : UInt8))] : List UInt8)), (v4 + (1 : Int)), by omega, jG h, rfl⟩
  · replace h := bGF h hb_2
    refine QW.exit zL (thX (thX (exE (nrm ?_))))
    refine sR ?_
    refine xm 24 (.own 0 (v3.map byteD)) ?_
    refine xz 2 (.own 0 (v3.map byteD)) ?_
    refine QW.ret zL ?_
    obtain rfl := sG h
    exact Ends.one (.inr rfl) rfl (ResIs.tmp rfl) rfl rfl
noncomputable def g_ref01_High (a0 : Int) (b1 : Int) : Option Int :=
    (bif (decide (b1 < a0)) then
    some a0
    else
    some b1)
theorem sim_ref01_High (a0 : Int) (b1 : Int) (r : Int) (h : g_ref01_High a0 b1 = some r) : Fun Try.prog 19 [.val (.int .i64 a0), .val (.int .i64 b1)] (.val (.int .i64 r)) := by
  refine Fun.of_bodyQ Try.func19 rfl (by simp [Try.ntmps19]) ?_
  rw [Try.ntmps19, TT.res_19]
  refine QW.view (s' := ⟨tab [(0, pI a0), (1, pI b1)], tabH [], 0, []⟩) (View.init (by rfl)) zL ?_
  unfold g_ref01_High at h
  refine sR ?_
  refine xz 4 (pI (0)) ?_
  refine QW.seq ?_
  refine sR ?_
  refine xm 5 (pI a0) ?_
  refine xm 6 (pI b1) ?_
  refine xs 7 rfl (sf_gtr (a := a0) (b := b1) rfl rfl rfl ?_)
  refine XK.nz ?_
  refine QW.cond (t := (decide (b1 < a0))) rfl zL (fun hb_1 => ?_) (fun hb_1 => ?_)
  · replace h := bT h hb_1
    refine sR ?_
    refine xm 8 (pI a0) ?_
    refine xz 4 (pI a0) ?_
    refine QW.ret zL (thR ?_)
    obtain rfl := sO h
    exact Ends.one (.inr rfl) rfl (ResIs.tmp rfl) rfl rfl
  · replace h := bF h hb_1
    refine QW.skip zL (nrm ?_)
    refine sR ?_
    refine xm 9 (pI b1) ?_
    refine xz 4 (pI b1) ?_
    refine QW.ret zL ?_
    obtain rfl := sO h
    exact Ends.one (.inr rfl) rfl (ResIs.tmp rfl) rfl rfl
inductive C_ref02_Common where
  | S
  | L1 (v5 : Int)
noncomputable def step_ref02_Common (a0 : (List UInt8)) (b1 : (List UInt8)) : C_ref02_Common → Option (C_ref02_Common ⊕ Int)
  | .S =>
    some (.inl (.L1 (0)))
  | .L1 v5 =>
    (bif (decide (v5 < (a0.length : Int))) then
    gO ((decide ((b1.length : Int) ≤ v5)) = false → 0 ≤ v5 ∧ v5 < (a0.length : Int)) (
    gO ((decide ((b1.length : Int) ≤ v5)) = false → 0 ≤ v5 ∧ v5 < (b1.length : Int)) (
    (bif ((decide ((b1.length : Int) ≤ v5)) || (!decide (((idx a0 v5).toNat : Int) = ((idx b1 v5).toNat : Int)))) then
    some (.inr v5)
    else
    gO (inI (v5 + (1 : Int))) (
    some (.inl (.L1 (v5 + (1 : Int))))))))
    else
    some (.inr (a0.length : Int)))
noncomputable def g_ref02_Common (a0 : (List UInt8)) (b1 : (List UInt8)) : Option Int := theC (step_ref02_Common a0 b1) .S
theorem sim_ref02_Common (a0 : (List UInt8)) (b1 : (List UInt8)) (r : Int) (h : g_ref02_Common a0 b1 = some r) : Fun Try.prog 36 [.slice (a0.map byteD), .slice (b1.map byteD)] (.val (.int .i64 r)) := by
  refine Fun.of_bodyQ Try.func36 rfl (by simp [Try.ntmps36]) ?_
  rw [Try.ntmps36, TT.res_36]
  refine QW.view (s' := ⟨tab [(0, .d (.slice (a0.map byteD))), (1, .d (.slice (b1.map byteD)))], tabH [], 0, []⟩) (View.init (by rfl)) zL ?_
  replace h := theC_get h
  obtain ⟨_, h⟩ := h
  obtain ⟨k_0, rfl, h9⟩ := run_succ h; replace h := h9; clear h9; rw [step_ref02_Common] at h
  refine sR ?_
  refine xz 4 (pI (0)) ?_
  refine QW.seq ?_
  refine sR ?_
  refine xz 5 (pI (0)) ?_
  refine QW.block ?_
  refine QW.loop (fun k σ => ∃ v5 : Int, k ≤ k_0 ∧ run (step_ref02_Common a0 b1) k (.L1 v5) = some r ∧ σ = ⟨tab [(0, .d (.slice (a0.map byteD))), (1, .d (.slice (b1.map byteD))), (5, pI v5)], tabH [], 0, []⟩) k_0 zL ⟨⟨tab [(0, .d (.slice (a0.map byteD))), (1, .d (.slice (b1.map byteD))), (5, pI (0))], tabH [], 0, []⟩, View.mk 0 [] _ _ _ rfl rfl (by decide) (iC (iC (iC trivial))) trivial rfl zL rfl, 0, Nat.le_refl _, jG h, rfl⟩ ?_
  rintro k_1s _ ⟨v5, k_1h, h, rfl⟩
  obtain ⟨k_1, rfl, h9⟩ := run_succ h; replace h := h9; clear h9; rw [step_ref02_Common] at h
  refine QW.seq ?_
  refine sR ?_
  refine xm 6 (pI v5) ?_
  refine xm 7 (.d (.slice (a0.map byteD))) ?_
  refine xs 8 rfl (sf_lenL (en := byteD) (l := a0) rfl TT.under_32 rfl ?_)
  refine xs 9 rfl (sf_lss (a := v5) (b := (a0.length : Int)) rfl rfl rfl ?_)
  refine XK.nz ?_
  refine QW.cond (t := (decide (v5 < (a0.length : Int)))) rfl zL (fun hb_2 => ?_) (fun hb_2 => ?_)
  · replace h := bGT h hb_2
    refine QW.skip zL (nrm ?_)
    refine QW.seq ?_
    refine QW.block ?_
    refine QW.seq ?_
    refine QW.region zL (PW.regQ (id := 4) mixedX (M := _) rfl (by kernel_rfl) ?_)
    refine RQ.st (some 12) rfl rfl (sf_move (v := pI v5) rfl rfl ⟨⟨rfl, rfl⟩, ?_⟩)
    refine RQ.st (some 13) rfl rfl (sf_move (v := .d (.slice (b1.map byteD))) rfl rfl ⟨⟨rfl, rfl⟩, ?_⟩)
    refine RQ.st (some 14) rfl rfl (sf_lenL (en := byteD) (l := b1) rfl TT.under_32 rfl ⟨⟨rfl, rfl⟩, ?_⟩)
    refine RQ.st (some 15) rfl rfl (sf_geq (a := v5) (b := (b1.length : Int)) rfl rfl rfl ⟨⟨rfl, rfl⟩, ?_⟩)
    refine RQ.st (some 16) rfl rfl (sf_move (v := pB (decide ((b1.length : Int) ≤ v5))) rfl rfl ⟨⟨rfl, rfl⟩, ?_⟩)
    refine RQ.gd (v := .d (.slice (a0.map byteD))) (T := []) (some 17) rfl rfl (by repeat (first | exact trivial | refine ⟨fun q => by first | rfl | exact q | exact cda q | exact cdb q, ?_⟩)) (fun hg => sf_move (v := .d (.slice (a0.map byteD))) rfl rfl g3) nm0 ?_
    refine RQ.gd (v := pI v5) (T := []) (some 18) rfl rfl (by repeat (first | exact trivial | refine ⟨fun q => by first | rfl | exact q | exact cda q | exact cdb q, ?_⟩)) (fun hg => sf_move (v := pI v5) rfl rfl g3) nm0 ?_
    obtain ⟨c_3, h⟩ := gG h
    refine RQ.gd (v := .d (.cptr ([.val (.int .u8 ((idx a0 v5).toNat : Int))]))) (T := []) (some 19) rfl rfl (by repeat (first | exact trivial | refine ⟨fun q => by first | rfl | exact q | exact cda q | exact cdb q, ?_⟩)) (fun hg => sf_idxA (l := a0) (i := v5) rfl TT.slcA_32 lay_byte rfl rfl (c_3 (eqB hg)) g3) nm0 ?_
    refine RQ.gd (v := .d (.val (.int .u8 ((idx a0 v5).toNat : Int)))) (T := []) (some 20) rfl rfl (by repeat (first | exact trivial | refine ⟨fun q => by first | rfl | exact q | exact cda q | exact cdb q, ?_⟩)) (fun hg => sf_ldC (d := .val (.int .u8 ((idx a0 v5).toNat : Int))) rfl TT.tyA_5 rfl (LdC.one) g3) nm0 ?_
    refine RQ.gd (v := .d (.slice (b1.map byteD))) (T := []) (some 21) rfl rfl (by repeat (first | exact trivial | refine ⟨fun q => by first | rfl | exact q | exact cda q | exact cdb q, ?_⟩)) (fun hg => sf_move (v := .d (.slice (b1.map byteD))) rfl rfl g3) nm0 ?_
    refine RQ.gd (v := pI v5) (T := []) (some 22) rfl rfl (by repeat (first | exact trivial | refine ⟨fun q => by first | rfl | exact q | exact cda q | exact cdb q, ?_⟩)) (fun hg => sf_move (v := pI v5) rfl rfl g3) nm0 ?_
    obtain ⟨c_4, h⟩ := gG h
    refine RQ.gd (v := .d (.cptr ([.val (.int .u8 ((idx b1 v5).toNat : Int))]))) (T := []) (some 23) rfl rfl (by repeat (first | exact trivial | refine ⟨fun q => by first | rfl | exact q | exact cda q | exact cdb q, ?_⟩)) (fun hg => sf_idxA (l := b1) (i := v5) rfl TT.slcA_32 lay_byte rfl rfl (c_4 (eqB hg)) g3) nm0 ?_
    refine RQ.gd (v := .d (.val (.int .u8 ((idx b1 v5).toNat : Int)))) (T := []) (some 24) rfl rfl (by repeat (first | exact trivial | refine ⟨fun q => by first | rfl | exact q | exact cda q | exact cdb q, ?_⟩)) (fun hg => sf_ldC (d := .val (.int .u8 ((idx b1 v5).toNat : Int))) rfl TT.tyA_5 rfl (LdC.one) g3) nm0 ?_
    refine RQ.gd (v := pB (!decide (((idx a0 v5).toNat : Int) = ((idx b1 v5).toNat : Int)))) (T := []) (some 25) rfl rfl (by repeat (first | exact trivial | refine ⟨fun q => by first | rfl | exact q | exact cda q | exact cdb q, ?_⟩)) (fun hg => sf_ne (a := ((idx a0 v5).toNat : Int)) (b := ((idx b1 v5).toNat : Int)) rfl rfl rfl g3) nm0 ?_
    refine RQ.st (some 26) rfl rfl (sf_pickO rfl rfl rfl rfl (fun _ => rfl) (fun hb => by rw [hb]; rfl) ⟨⟨rfl, rfl⟩, ?_⟩)
    refine RQ.nil (nrm ?_)
    refine QW.cond (t := ((decide ((b1.length : Int) ≤ v5)) || (!decide (((idx a0 v5).toNat : Int) = ((idx b1 v5).toNat : Int))))) rfl zL (fun hb_5 => ?_) (fun hb_5 => ?_)
    · replace h := bGT h hb_5
      refine sR ?_
      refine xm 27 (pI v5) ?_
      refine xz 4 (pI v5) ?_
      refine QW.ret zL (blR (thR (thR (blR (thR ?_)))))
      obtain rfl := sG h
      exact Ends.one (.inr rfl) rfl (ResIs.tmp rfl) rfl rfl
    · replace h := bGF h hb_5
      refine QW.skip zL (blN (nrm ?_))
      refine rG ?_
      refine xm 10 (pI v5) ?_
      obtain ⟨c_6, h⟩ := gG h
      refine xs 11 rfl (sf_add (a := v5) (b := (1 : Int)) rfl rfl rfl c_6 ?_)
      refine xz 5 (pI (v5 + (1 : Int))) ?_
      exact ⟨k_1, by omega, ⟨tab [(0, .d (.slice (a0.map byteD))), (1, .d (.slice (b1.map byteD))), (5, pI (v5 + (1 : Int)))], tabH [], 0, []⟩, View.mk 0 [] _ _ _ rfl rfl (by decide) (iC (iC (iC trivial))) trivial rfl zL rfl, (v5 + (1 : Int)), by omega, jG h, rfl⟩
  · replace h := bGF h hb_2
    refine QW.exit zL (thX (thX (exE (nrm ?_))))
    refine sR ?_
    refine xm 28 (.d (.slice (a0.map byteD))) ?_
    refine xs 29 rfl (sf_lenL (en := byteD) (l := a0) rfl TT.under_32 rfl ?_)
    refine xz 4 (pI (a0.length : Int)) ?_
    refine QW.ret zL ?_
    obtain rfl := sG h
    exact Ends.one (.inr rfl) rfl (ResIs.tmp rfl) rfl rfl
noncomputable def g_ref01_Low (a0 : Int) (b1 : Int) : Option Int :=
    (bif (decide (a0 < b1)) then
    some a0
    else
    some b1)
theorem sim_ref01_Low (a0 : Int) (b1 : Int) (r : Int) (h : g_ref01_Low a0 b1 = some r) : Fun Try.prog 37 [.val (.int .i64 a0), .val (.int .i64 b1)] (.val (.int .i64 r)) := by
  refine Fun.of_bodyQ Try.func37 rfl (by simp [Try.ntmps37]) ?_
  rw [Try.ntmps37, TT.res_37]
  refine QW.view (s' := ⟨tab [(0, pI a0), (1, pI b1)], tabH [], 0, []⟩) (View.init (by rfl)) zL ?_
  unfold g_ref01_Low at h
  refine sR ?_
  refine xz 4 (pI (0)) ?_
  refine QW.seq ?_
  refine sR ?_
  refine xm 5 (pI a0) ?_
  refine xm 6 (pI b1) ?_
  refine xs 7 rfl (sf_lss (a := a0) (b := b1) rfl rfl rfl ?_)
  refine XK.nz ?_
  refine QW.cond (t := (decide (a0 < b1))) rfl zL (fun hb_1 => ?_) (fun hb_1 => ?_)
  · replace h := bT h hb_1
    refine sR ?_
    refine xm 8 (pI a0) ?_
    refine xz 4 (pI a0) ?_
    refine QW.ret zL (thR ?_)
    obtain rfl := sO h
    exact Ends.one (.inr rfl) rfl (ResIs.tmp rfl) rfl rfl
  · replace h := bF h hb_1
    refine QW.skip zL (nrm ?_)
    refine sR ?_
    refine xm 9 (pI b1) ?_
    refine xz 4 (pI b1) ?_
    refine QW.ret zL ?_
    obtain rfl := sO h
    exact Ends.one (.inr rfl) rfl (ResIs.tmp rfl) rfl rfl
inductive C_ref02_Pack where
  | S
  | L3 (v7_2 : (List UInt8)) (v8_2 : Int)
noncomputable def step_ref02_Pack (p0 : (List UInt8)) (leaf1 : Bool) : C_ref02_Pack → Option (C_ref02_Pack ⊕ (List UInt8))
  | .S =>
    (((bif leaf1 then
    some (32)
    else
    some (0)) : Option Int).bind fun (v5 : Int) =>
    (((bif (decide (((p0.length : Int).tmod (2 : Int)) = (1 : Int))) then
    gO (inI (v5 + (16 : Int))) (
    gO (0 ≤ (0 : Int) ∧ (0 : Int) < (p0.length : Int)) (
    gO (inI ((v5 + (16 : Int)) + ((idx p0 (0 : Int)).toNat : Int))) (
    some (((v5 + (16 : Int)) + ((idx p0 (0 : Int)).toNat : Int)), 1))))
    else
    some (v5, 0)) : Option (Int × Int)).bind fun (v5_2, v6) =>
    some (.inl (.L3 ([(u8I v5_2)] : List UInt8) v6))))
  | .L3 v7_2 v8_2 =>
    (bif (decide (v8_2 < (p0.length : Int))) then
    gO (0 ≤ v8_2 ∧ v8_2 < (p0.length : Int)) (
    gO (inI (v8_2 + (1 : Int))) (
    gO (0 ≤ (v8_2 + (1 : Int)) ∧ (v8_2 + (1 : Int)) < (p0.length : Int)) (
    gO (v7_2.length + ([(((16 : UInt8) * (idx p0 v8_2)) + (idx p0 (v8_2 + (1 : Int))))] : List UInt8).length ≤ 9223372036854775807) (
    gO (inI (v8_2 + (2 : Int))) (
    some (.inl (.L3 (v7_2 ++ ([(((16 : UInt8) * (idx p0 v8_2)) + (idx p0 (v8_2 + (1 : Int))))] : List UInt8)) (v8_2 + (2 : Int)))))))))
    else
    some (.inr v7_2))
noncomputable def g_ref02_Pack (p0 : (List UInt8)) (leaf1 : Bool) : Option (List UInt8) := theC (step_ref02_Pack p0 leaf1) .S
theorem sim_ref02_Pack (p0 : (List UInt8)) (leaf1 : Bool) (r : (List UInt8)) (h : g_ref02_Pack p0 leaf1 = some r) : Fun Try.prog 33 [.slice (p0.map byteD), .val (.bool leaf1)] (.val (sV r)) := by
  refine Fun.of_bodyQ Try.func33 rfl (by simp [Try.ntmps33]) ?_
  rw [Try.ntmps33, TT.res_33]
  refine QW.view (s' := ⟨tab [(0, .d (.slice (p0.map byteD))), (1, pB leaf1)], tabH [], 0, []⟩) (View.init (by rfl)) zL ?_
  replace h := theC_get h
  obtain ⟨_, h⟩ := h
  obtain ⟨k_0, rfl, h9⟩ := run_succ h; replace h := h9; clear h9; rw [step_ref02_Pack] at h
  refine sR ?_
  refine xz 4 (pS ([] : List UInt8)) ?_
  refine sR ?_
  refine xz 5 (pI (0)) ?_
  obtain ⟨v5, hq, h⟩ := bG h
  refine QW.seqI (fun s' => s' = ⟨tab [(0, .d (.slice (p0.map byteD))), (5, pI v5)], tabH [], 0, []⟩) ?_ ?_
  · replace h := hq; clear hq
    refine sR ?_
    refine xm 9 (pB leaf1) ?_
    refine XK.nz ?_
    refine QW.cond (t := leaf1) rfl zL (fun hb_1 => ?_) (fun hb_1 => ?_)
    · replace h := bT h hb_1
      refine rG ?_
      refine xz 5 (pI (32)) ?_
      obtain rfl := sO h
      exact ⟨⟨tab [(0, .d (.slice (p0.map byteD))), (5, pI (32))], tabH [], 0, []⟩, View.mk 0 [] _ _ _ rfl rfl (by decide) (iC (iC trivial)) trivial rfl zL rfl, rfl⟩
    · replace h := bF h hb_1
      refine QW.skip zL (nrm ?_)
      obtain rfl := sO h
      exact ⟨⟨tab [(0, .d (.slice (p0.map byteD))), (5, pI (0))], tabH [], 0, []⟩, View.mk 0 [] _ _ _ rfl rfl (by decide) (iC (iC trivial)) trivial rfl zL rfl, rfl⟩
  · rintro _ rfl
    refine sR ?_
    refine xz 6 (pI (0)) ?_
    obtain ⟨⟨v5_2, v6⟩, hq, h⟩ := bG h
    refine QW.seqI (fun s' => s' = ⟨tab [(0, .d (.slice (p0.map byteD))), (5, pI v5_2), (6, pI v6)], tabH [], 0, []⟩) ?_ ?_
    · replace h := hq; clear hq
      refine sR ?_
      refine xm 10 (.d (.slice (p0.map byteD))) ?_
      refine xs 11 rfl (sf_lenL (en := byteD) (l := p0) rfl TT.under_32 rfl ?_)
      refine xs 12 rfl (sf_rem (a := (p0.length : Int)) (b := (2 : Int)) rfl rfl rfl (by decide) ?_)
      refine xs 13 rfl (sf_eq (a := ((p0.length : Int).tmod (2 : Int))) (b := (1 : Int)) rfl rfl rfl ?_)
      refine XK.nz ?_
      refine QW.cond (t := (decide (((p0.length : Int).tmod (2 : Int)) = (1 : Int)))) rfl zL (fun hb_2 => ?_) (fun hb_2 => ?_)
      · replace h := bT h hb_2
        refine sR ?_
        refine xm 14 (pI v5) ?_
        obtain ⟨c_3, h⟩ := gO_get h
        refine xs 15 rfl (sf_add (a := v5) (b := (16 : Int)) rfl rfl rfl c_3 ?_)
        refine xm 16 (.d (.slice (p0.map byteD))) ?_
        obtain ⟨c_4, h⟩ := gO_get h
        refine xs 17 rfl (sf_idxA (l := p0) (i := (0 : Int)) rfl TT.slcA_32 lay_byte rfl rfl c_4 ?_)
        refine xs 18 rfl (sf_ldC (d := .val (.int .u8 ((idx p0 (0 : Int)).toNat : Int))) rfl TT.tyA_5 rfl (LdC.one) ?_)
        refine xs 19 rfl (sf_toI (n := ((idx p0 (0 : Int)).toNat : Int)) rfl TT.under_5 TT.under_3 rfl (inI_u8 _) ?_)
        obtain ⟨c_5, h⟩ := gO_get h
        refine xs 20 rfl (sf_add (a := (v5 + (16 : Int))) (b := ((idx p0 (0 : Int)).toNat : Int)) rfl rfl rfl c_5 ?_)
        refine xz 5 (pI ((v5 + (16 : Int)) + ((idx p0 (0 : Int)).toNat : Int))) ?_
        refine rG ?_
        refine xz 6 (pI (1)) ?_
        simp only [Option.some.injEq, Prod.mk.injEq] at h
        obtain ⟨rfl, rfl⟩ := h
        exact ⟨⟨tab [(0, .d (.slice (p0.map byteD))), (5, pI ((v5 + (16 : Int)) + ((idx p0 (0 : Int)).toNat : Int))), (6, pI (1))], tabH [], 0, []⟩, View.mk 0 [] _ _ _ rfl rfl (by decide) (iC (iC (iC trivial))) trivial rfl zL rfl, rfl⟩
      · replace h := bF h hb_2
        refine QW.skip zL (nrm ?_)
        simp only [Option.some.injEq, Prod.mk.injEq] at h
        obtain ⟨rfl, rfl⟩ := h
        exact ⟨⟨tab [(0, .d (.slice (p0.map byteD))), (5, pI v5), (6, pI (0))], tabH [], 0, []⟩, View.mk 0 [] _ _ _ rfl rfl (by decide) (iC (iC (iC trivial))) trivial rfl zL rfl, rfl⟩
    · rintro _ rfl
      refine sR ?_
      refine xm 21 (pI v5_2) ?_
      refine xs 22 rfl (sf_toU8 (n := v5_2) rfl TT.under_3 TT.under_5 rfl ?_)
      refine xs 23 rfl (sf_row (en := byteD) (l := ([(u8I v5_2)] : List UInt8)) rfl TT.rowA_32 lay_byte rfl rfl (by decide) (by simp [solids, partsP, evP, ofVal, PV.solid, putS_at, tab, unS, unT, unC, asCond, Value.oneCell']) ?_)
      refine xs 24 rfl (sf_b2s (l := ([(u8I v5_2)] : List UInt8)) rfl TT.under_32 TT.under_5 TT.under_9 rfl ?_)
      refine xz 7 (pS ([(u8I v5_2)] : List UInt8)) ?_
      refine QW.seq ?_
      refine sR ?_
      refine xm 25 (pI v6) ?_
      refine xz 8 (pI v6) ?_
      refine QW.block ?_
      refine QW.loop (fun k σ => ∃ v7_2 : (List UInt8), ∃ v8_2 : Int, k ≤ k_0 ∧ run (step_ref02_Pack p0 leaf1) k (.L3 v7_2 v8_2) = some r ∧ σ = ⟨tab [(0, .d (.slice (p0.map byteD))), (7, pS v7_2), (8, pI v8_2)], tabH [], 0, []⟩) k_0 zL ⟨⟨tab [(0, .d (.slice (p0.map byteD))), (7, pS ([(u8I v5_2)] : List UInt8)), (8, pI v6)], tabH [], 0, []⟩, View.mk 0 [] _ _ _ rfl rfl (by decide) (iC (iC (iC trivial))) trivial rfl zL rfl, ([(u8I v5_2)] : List UInt8), v6, Nat.le_refl _, jG h, rfl⟩ ?_
      rintro k_6s _ ⟨v7_2, v8_2, k_6h, h, rfl⟩
      obtain ⟨k_6, rfl, h9⟩ := run_succ h; replace h := h9; clear h9; rw [step_ref02_Pack] at h
      refine QW.seq ?_
      refine sR ?_
      refine xm 26 (pI v8_2) ?_
      refine xm 27 (.d (.slice (p0.map byteD))) ?_
      refine xs 28 rfl (sf_lenL (en := byteD) (l := p0) rfl TT.under_32 rfl ?_)
      refine xs 29 rfl (sf_lss (a := v8_2) (b := (p0.length : Int)) rfl rfl rfl ?_)
      refine XK.nz ?_
      refine QW.cond (t := (decide (v8_2 < (p0.length : Int)))) rfl zL (fun hb_7 => ?_) (fun hb_7 => ?_)
      · replace h := bGT h hb_7
        refine QW.skip zL (nrm ?_)
        refine QW.seq ?_
        refine QW.block ?_
        refine QW.region zL (PW.regQ (id := 12) mixedX (M := _) rfl (by kernel_rfl) ?_)
        refine RQ.st (some 32) rfl rfl (sf_move (v := pS v7_2) rfl rfl ⟨⟨rfl, rfl⟩, ?_⟩)
        refine RQ.st (some 33) rfl rfl (sf_move (v := .d (.slice (p0.map byteD))) rfl rfl ⟨⟨rfl, rfl⟩, ?_⟩)
        refine RQ.st (some 34) rfl rfl (sf_move (v := pI v8_2) rfl rfl ⟨⟨rfl, rfl⟩, ?_⟩)
        obtain ⟨c_8, h⟩ := gG h
        refine RQ.st (some 35) rfl rfl (sf_idxA (l := p0) (i := v8_2) rfl TT.slcA_32 lay_byte rfl rfl c_8 ⟨⟨rfl, rfl⟩, ?_⟩)
        refine RQ.st (some 36) rfl rfl (sf_ldC (d := .val (.int .u8 ((idx p0 v8_2).toNat : Int))) rfl TT.tyA_5 rfl (LdC.one) ⟨⟨rfl, rfl⟩, ?_⟩)
        refine RQ.st (some 37) rfl rfl (sf_u8mul (p := (16 : UInt8)) (q := (idx p0 v8_2)) rfl rfl rfl ⟨⟨rfl, rfl⟩, ?_⟩)
        refine RQ.st (some 38) rfl rfl (sf_move (v := .d (.slice (p0.map byteD))) rfl rfl ⟨⟨rfl, rfl⟩, ?_⟩)
        refine RQ.st (some 39) rfl rfl (sf_move (v := pI v8_2) rfl rfl ⟨⟨rfl, rfl⟩, ?_⟩)
        obtain ⟨c_9, h⟩ := gG h
        refine RQ.st (some 40) rfl rfl (sf_add (a := v8_2) (b := (1 : Int)) rfl rfl rfl c_9 ⟨⟨rfl, rfl⟩, ?_⟩)
        obtain ⟨c_10, h⟩ := gG h
        refine RQ.st (some 41) rfl rfl (sf_idxA (l := p0) (i := (v8_2 + (1 : Int))) rfl TT.slcA_32 lay_byte rfl rfl c_10 ⟨⟨rfl, rfl⟩, ?_⟩)
        refine RQ.st (some 42) rfl rfl (sf_ldC (d := .val (.int .u8 ((idx p0 (v8_2 + (1 : Int))).toNat : Int))) rfl TT.tyA_5 rfl (LdC.one) ⟨⟨rfl, rfl⟩, ?_⟩)
        refine RQ.st (some 43) rfl rfl (sf_u8add (p := ((16 : UInt8) * (idx p0 v8_2))) (q := (idx p0 (v8_2 + (1 : Int)))) rfl rfl rfl ⟨⟨rfl, rfl⟩, ?_⟩)
        refine RQ.st (some 44) rfl rfl (sf_row (en := byteD) (l := ([(((16 : UInt8) * (idx p0 v8_2)) + (idx p0 (v8_2 + (1 : Int))))] : List UInt8)) rfl TT.rowA_32 lay_byte rfl rfl (by decide) (by simp [solids, partsP, evP, ofVal, PV.solid, putS_at, tab, unS, unT, unC, asCond, Value.oneCell']) ⟨⟨rfl, rfl⟩, ?_⟩)
        refine RQ.st (some 45) rfl rfl (sf_b2s (l := ([(((16 : UInt8) * (idx p0 v8_2)) + (idx p0 (v8_2 + (1 : Int))))] : List UInt8)) rfl TT.under_32 TT.under_5 TT.under_9 rfl ⟨⟨rfl, rfl⟩, ?_⟩)
        obtain ⟨c_11, h⟩ := gG h
        refine RQ.st (some 46) rfl rfl (sf_cat (a := v7_2) (b := ([(((16 : UInt8) * (idx p0 v8_2)) + (idx p0 (v8_2 + (1 : Int))))] : List UInt8)) rfl rfl rfl c_11 ⟨⟨rfl, rfl⟩, ?_⟩)
        refine RQ.st (some 7) rfl rfl (sf_assign (v := pS (v7_2 ++ ([(((16 : UInt8) * (idx p0 v8_2)) + (idx p0 (v8_2 + (1 : Int))))] : List UInt8))) rfl rfl ⟨⟨rfl, rfl⟩, ?_⟩)
        refine RQ.nil (blN (nrm ?_))
        refine QW.view (s' := ⟨tab [(0, .d (.slice (p0.map byteD))), (7, pS (v7_2 ++ ([(((16 : UInt8) * (idx p0 v8_2)) + (idx p0 (v8_2 + (1 : Int))))] : List UInt8))), (8, pI v8_2)], tabH [], 0, []⟩) (View.mk 0 [] _ _ _ rfl rfl (by decide) (iC (iC (iC trivial))) trivial rfl zL rfl) zL ?_
        refine rG ?_
        refine xm 30 (pI v8_2) ?_
        obtain ⟨c_12, h⟩ := gG h
        refine xs 31 rfl (sf_add (a := v8_2) (b := (2 : Int)) rfl rfl rfl c_12 ?_)
        refine xz 8 (pI (v8_2 + (2 : Int))) ?_
        exact ⟨k_6, by omega, ⟨tab [(0, .d (.slice (p0.map byteD))), (7, pS (v7_2 ++ ([(((16 : UInt8) * (idx p0 v8_2)) + (idx p0 (v8_2 + (1 : Int))))] : List UInt8))), (8, pI (v8_2 + (2 : Int)))], tabH [], 0, []⟩, View.mk 0 [] _ _ _ rfl rfl (by decide) (iC (iC (iC trivial))) trivial rfl zL rfl, (v7_2 ++ ([(((16 : UInt8) * (idx p0 v8_2)) + (idx p0 (v8_2 + (1 : Int))))] : List UInt8)), (v8_2 + (2 : Int)), by omega, jG h, rfl⟩
      · replace h := bGF h hb_7
        refine QW.exit zL (thX (thX (exE (nrm ?_))))
        refine sR ?_
        refine xm 47 (pS v7_2) ?_
        refine xz 4 (pS v7_2) ?_
        refine QW.ret zL ?_
        obtain rfl := sG h
        exact Ends.one (.inr rfl) rfl (ResIs.tmp rfl) rfl rfl
end Go.Proofs.Ytfnlcnnoedmfiaa.K
