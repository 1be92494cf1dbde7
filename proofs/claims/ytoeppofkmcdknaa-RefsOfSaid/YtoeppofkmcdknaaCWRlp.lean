/- Packages rlp and nib: what they reckon. -/
import Derived.Test.YtoeppofkmcdknaaCKN
import Derived.Test.YtoeppofkmcdknaaRows
import Derived.KernelRfl
namespace Go.Proofs.Ytoeppofkmcdknaa.K
open Go Go.RowKit
set_option linter.unusedSimpArgs false
set_option linter.unusedVariables false
set_option maxRecDepth 20000
set_option maxHeartbeats 4000000
namespace TT
theorem arrA_9 : arrA Try.prog 9 = none := by kernel_rfl
theorem bldA_125 : bldA Try.prog 125 = some ([Value.bool false, Value.string ⟨#[]⟩, Value.slice none 0 0], .inl [(0, 1), (1, 1), (2, 1)]) := by kernel_rfl
theorem bldA_193 : bldA Try.prog 193 = some ([Value.int IntKind.i64 0], .inl [(0, 1)]) := by kernel_rfl
theorem enters_103 : entersB Try.prog 103 = true := by kernel_rfl
theorem enters_143 : entersB Try.prog 143 = true := by kernel_rfl
theorem enters_144 : entersB Try.prog 144 = true := by kernel_rfl
theorem enters_145 : entersB Try.prog 145 = true := by kernel_rfl
theorem enters_146 : entersB Try.prog 146 = true := by kernel_rfl
theorem enters_147 : entersB Try.prog 147 = true := by kernel_rfl
theorem enters_148 : entersB Try.prog 148 = true := by kernel_rfl
theorem enters_149 : entersB Try.prog 149 = true := by kernel_rfl
theorem enters_165 : entersB Try.prog 165 = true := by kernel_rfl
theorem enters_166 : entersB Try.prog 166 = true := by kernel_rfl
theorem enters_167 : entersB Try.prog 167 = true := by kernel_rfl
theorem enters_168 : entersB Try.prog 168 = true := by kernel_rfl
theorem enters_169 : entersB Try.prog 169 = true := by kernel_rfl
theorem enters_170 : entersB Try.prog 170 = true := by kernel_rfl
theorem enters_175 : entersB Try.prog 175 = true := by kernel_rfl
theorem enters_97 : entersB Try.prog 97 = true := by kernel_rfl
theorem fldA_125_0 : fldA Try.prog 125 0 = some (0, 1, false) := by kernel_rfl
theorem fldA_125_1 : fldA Try.prog 125 1 = some (1, 1, false) := by kernel_rfl
theorem fldA_125_2 : fldA Try.prog 125 2 = some (2, 1, false) := by kernel_rfl
theorem fldA_173_0 : fldA Try.prog 173 0 = some (0, 1, false) := by kernel_rfl
theorem fldA_193_0 : fldA Try.prog 193 0 = some (0, 1, false) := by kernel_rfl
theorem ifaceOK_193 : ifaceOK Try.prog 193 = true := by kernel_rfl
theorem res_103 : Try.f103.results.toList = [.tmp 2] := rfl
theorem res_105 : Try.f105.results.toList = [.cell 2 125, .tmp 3] := rfl
theorem res_115 : Try.f115.results.toList = [.tmp 2] := rfl
theorem res_143 : Try.f143.results.toList = [.tmp 2] := rfl
theorem res_144 : Try.f144.results.toList = [.tmp 2] := rfl
theorem res_145 : Try.f145.results.toList = [] := rfl
theorem res_146 : Try.f146.results.toList = [.tmp 6] := rfl
theorem res_147 : Try.f147.results.toList = [.tmp 4] := rfl
theorem res_148 : Try.f148.results.toList = [.tmp 2] := rfl
theorem res_149 : Try.f149.results.toList = [.cell 2 125, .tmp 3, .cell 4 25] := rfl
theorem res_150 : Try.f150.results.toList = [.tmp 2, .tmp 3, .tmp 4] := rfl
theorem res_165 : Try.f165.results.toList = [] := rfl
theorem res_166 : Try.f166.results.toList = [] := rfl
theorem res_167 : Try.f167.results.toList = [.tmp 4] := rfl
theorem res_168 : Try.f168.results.toList = [.tmp 4] := rfl
theorem res_169 : Try.f169.results.toList = [.cell 6 125, .tmp 7] := rfl
theorem res_170 : Try.f170.results.toList = [] := rfl
theorem res_175 : Try.f175.results.toList = [.tmp 4, .tmp 5] := rfl
theorem res_94 : Try.f94.results.toList = [.tmp 4, .tmp 5] := rfl
theorem res_95 : Try.f95.results.toList = [.tmp 2, .cell 3 25] := rfl
theorem res_96 : Try.f96.results.toList = [.cell 2 125] := rfl
theorem res_97 : Try.f97.results.toList = [.cell 2 125] := rfl
theorem rowA_123 : rowA Try.prog 123 = some (3, 48) := by kernel_rfl
theorem rowA_191 : rowA Try.prog 191 = some (1, 24) := by kernel_rfl
theorem rowA_49 : rowA Try.prog 49 = some (1, 1) := by kernel_rfl
theorem slcA_123 : slcA Try.prog 123 = some (3, 48, true) := by kernel_rfl
theorem slcA_191 : slcA Try.prog 191 = some (1, 24, false) := by kernel_rfl
theorem slcA_49 : slcA Try.prog 49 = some (1, 1, false) := by kernel_rfl
theorem tyA_123 : tyA Try.prog 123 = some (false, 1) := by kernel_rfl
theorem tyA_125 : tyA Try.prog 125 = some (true, 3) := by kernel_rfl
theorem tyA_193 : tyA Try.prog 193 = some (true, 1) := by kernel_rfl
theorem tyA_25 : tyA Try.prog 25 = some (false, 1) := by kernel_rfl
theorem tyA_3 : tyA Try.prog 3 = some (false, 1) := by kernel_rfl
theorem tyA_4 : tyA Try.prog 4 = some (false, 1) := by kernel_rfl
theorem tyA_49 : tyA Try.prog 49 = some (false, 1) := by kernel_rfl
theorem tyA_5 : tyA Try.prog 5 = some (false, 1) := by kernel_rfl
theorem tyA_9 : tyA Try.prog 9 = some (false, 1) := by kernel_rfl
theorem under_123 : Program.underlying Try.prog 123 = some (.slice 125) := by kernel_rfl
theorem under_191 : Program.underlying Try.prog 191 = some (.slice 49) := by kernel_rfl
theorem under_20 : Program.underlying Try.prog 20 = some (.interface #[]) := by kernel_rfl
theorem under_3 : Program.underlying Try.prog 3 = some (.int .i64) := by kernel_rfl
theorem under_49 : Program.underlying Try.prog 49 = some (.slice 5) := by kernel_rfl
theorem under_5 : Program.underlying Try.prog 5 = some (.int .u8) := by kernel_rfl
theorem under_9 : Program.underlying Try.prog 9 = some (.string) := by kernel_rfl
theorem zeroA_125 : zeroA Try.prog 125 = some [Value.bool false, Value.string ⟨#[]⟩, Value.slice none 0 0] := by kernel_rfl
theorem zeroA_173 : zeroA Try.prog 173 = some [Value.int IntKind.i64 0] := by kernel_rfl
theorem zeroA_193 : zeroA Try.prog 193 = some [Value.int IntKind.i64 0] := by kernel_rfl
theorem zeroA_25 : zeroA Try.prog 25 = some [Value.int IntKind.i64 0] := by kernel_rfl
theorem zeroA_49 : zeroA Try.prog 49 = some [Value.slice none 0 0] := by kernel_rfl
end TT
theorem mixedX : Try.prog.follows .mixedOrders = true := by kernel_rfl
structure Node where
  fKind : Int
  fPath : (List UInt8)
  fValue : (List UInt8)
  fKids : (Arr 16 (List UInt8))
  deriving Inhabited
def cNode (x : Node) : List D := ([.val (.int .i64 (x.fKind)), .slice ((x.fPath).map byteD), .val (sV (x.fValue))]) ++ ((x.fKids).1.map eS)
def eNode (x : Node) : D := .agg (cNode x)
theorem lay_Node : Lay eNode cNode 19 := ⟨fun _ => rfl, fun x => by simp [cNode, x.fKids.2]⟩
theorem ldc_Node_0 (x : Node) : LdC false 1 ((cNode x).drop 0) (.val (.int .i64 (x.fKind))) := LdC.one
theorem ldc_Node_1 (x : Node) : LdC false 1 ((cNode x).drop 1) (.slice ((x.fPath).map byteD)) := LdC.one
theorem ldc_Node_2 (x : Node) : LdC false 1 ((cNode x).drop 2) (.val (sV (x.fValue))) := LdC.one
theorem ldc_Node_3 (x : Node) : LdC true 16 ((cNode x).drop 3) (.agg ((x.fKids).1.map eS)) := ldc_skip 3 0 rfl (ldc_all (show ((x.fKids).1.map eS).length = 16 by rw [List.length_map, x.fKids.2]))
theorem pre_Node_3 (x : Node) : Pre ((cNode x).drop 3) eS x.fKids := pre_skip 3 0 rfl (Pre.all _)
theorem flat_Node (x : Node) : ∀ d ∈ cNode x, d.flat = true := (flat_app (flat_cons rfl (flat_cons rfl (flat_cons rfl flat_nil))) (flat_arr _ (fun _ => rfl)))
structure fail where
  fe : Int
  deriving Inhabited
def cfail (x : fail) : List D := [.val (.int .i64 (x.fe))]
structure counter where
  fn : Int
  deriving Inhabited
structure Item where
  fList : Bool
  fS : (List UInt8)
  fL : (List Item)
instance : Inhabited Item := ⟨⟨default, default, []⟩⟩
mutual
def eItem : Item → D
  | ⟨x0, x1, x2⟩ => .agg [.val (.bool x0), .val (sV x1), .slice (eItems x2)]
def eItems : List Item → List D
  | [] => []
  | x :: r => eItem x :: eItems r
end
theorem eItems_map : ∀ l : List Item, eItems l = l.map eItem
  | [] => by simp [eItems]
  | x :: r => by simp [eItems, eItems_map r]
def cItem (x : Item) : List D := ([.val (.bool (x.fList)), .val (sV (x.fS)), .slice ((x.fL).map eItem)])
theorem eItem_eq (x : Item) : eItem x = .agg (cItem x) := by
  cases x; simp [eItem, cItem, eItems_map]
theorem lay_Item : Lay eItem cItem 3 := ⟨fun x => by rw [eItem_eq]; rfl, fun _ => rfl⟩
noncomputable def g_slices_Clone_byte_byte (v0 : (List UInt8)) : Option (List UInt8) :=
    gO ((([] : List UInt8).length + v0.length) * 1 ≤ 140737488355328) (
    some (([] : List UInt8) ++ v0))
theorem sim_slices_Clone_byte_byte (v0 : (List UInt8)) (r : (List UInt8)) (h : g_slices_Clone_byte_byte v0 = some r) : Fun Try.prog 115 [.slice (v0.map byteD)] (.slice (r.map byteD)) := by
  refine Fun.of_bodyQ Try.func115 rfl (by simp [Try.ntmps115]) ?_
  rw [Try.ntmps115, TT.res_115]
  refine QW.view (s' := ⟨tab [(0, .d (.slice (v0.map byteD)))], tabH [], 0, []⟩) (View.init (by rfl)) zL ?_
  unfold g_slices_Clone_byte_byte at h
  refine sR ?_
  refine xz 2 (.full (([] : (List UInt8)).map byteD)) ?_
  refine QW.seq ?_
  refine sR ?_
  refine xm 3 (.d (.slice (v0.map byteD))) ?_
  refine XK.nt (l := v0) (some 4) rfl rfl rfl TT.under_49 rfl (fun e0 => ?_) ?_
  · refine XK.nz ?_
    refine QW.condT rfl ?_
    refine sR ?_
    refine xz 2 (.full (([] : (List UInt8)).map byteD)) ?_
    refine QW.ret zL (thR ?_)
    subst e0; obtain ⟨_, h⟩ := gO_get h; obtain rfl := sO h
    exact Ends.one (.inr rfl) rfl (ResIs.tmp rfl) rfl rfl
  · refine XK.nz ?_
    refine QW.condF rfl ?_
    refine QW.skip zL (nrm ?_)
    refine sR ?_
    refine xs 5 rfl (sf_row (en := byteD) (l := ([] : List UInt8)) rfl TT.rowA_49 lay_byte rfl rfl (by decide) (by simp [solids, partsP, evP, ofVal, PV.solid, putS_at, tab, unS, unT, unC, asCond, Value.oneCell']) ?_)
    refine xm 6 (.d (.slice (v0.map byteD))) ?_
    obtain ⟨c_1, h⟩ := gO_get h
    refine xs 7 rfl (sf_appF (en := byteD) (l := ([] : List UInt8)) (l2 := v0) rfl TT.rowA_49 TT.under_49 rfl lay_byte rfl rfl ⟨c_1, fun _ => rfl⟩ (by decide) ?_)
    refine xz 2 (.own 0 ((([] : List UInt8) ++ v0).map byteD)) ?_
    refine QW.ret zL ?_
    obtain rfl := sO h
    exact Ends.one (.inr rfl) rfl (ResIs.tmp rfl) rfl rfl
set_option maxRecDepth 20000 in
theorem caught_none_rlp_caught (e0 : Int) : DLaw Try.prog 145 [.vptr 0 0] [.var [pI e0]] none [.var [pI e0]] := by
  refine DLaw.of_body (r := .tuple []) none Try.func145 rfl rfl rfl rfl rfl rfl rfl rfl (by simp [Try.ntmps145]) (by simp [Try.ntmps145]) (by simp [Try.ntmps145]) ?_
  rw [Try.ntmps145, TT.res_145]
  refine QW.view (s' := ⟨tab [(0, .vptr 0 0), (2, .d (.val .nilIface)), (5, .d (.val .nilIface))], tabH [.var [pI e0]], 1, []⟩) (View.mk 1 [0] _ _ _ rfl rfl (by decide) (iC (iC (iC trivial))) (And.intro rfl trivial) rfl bL rfl) bL ?_
  refine QW.seq ?_
  refine sRb ?_
  refine xm 6 (.d (.val .nilIface)) ?_
  refine XK.pr (v := pB true) (some 7) rfl rfl (pr_nilnil rfl TT.under_20 rfl) ?_
  refine XK.nz ?_
  refine QW.condT rfl ?_
  refine QW.ret bL (thR ?_)
  exact EndsV.none (s' := ⟨tab [], tabH [.var [pI e0]], 1, []⟩) (.inr rfl) (View.mk 1 [0] _ _ _ rfl rfl (by decide) trivial (And.intro rfl trivial) rfl bL rfl) rfl rfl rfl
set_option maxRecDepth 20000 in
theorem caught_some_rlp_caught (e0 e : Int) : DLaw Try.prog 145 [.vptr 0 0] [.var [pI e0]] (some (.iface 193 (.agg [.val (.int .i64 e)]))) [.var [pI e]] := by
  refine DLaw.of_body (r := .tuple []) (some (.iface 193 (.agg [.val (.int .i64 e)]))) Try.func145 rfl rfl rfl rfl rfl rfl rfl rfl (by simp [Try.ntmps145]) (by simp [Try.ntmps145]) (by simp [Try.ntmps145]) ?_
  rw [Try.ntmps145, TT.res_145]
  refine QW.view (s' := ⟨tab [(0, .vptr 0 0), (2, .d (.iface 193 (.agg [.val (.int .i64 e)]))), (5, .d (.iface 193 (.agg [.val (.int .i64 e)])))], tabH [.var [pI e0]], 1, []⟩) (View.mk 1 [0] _ _ _ rfl rfl (by decide) (iC (iC (iC trivial))) (And.intro rfl trivial) rfl bL rfl) bL ?_
  refine QW.seq ?_
  refine sRb ?_
  refine xm 6 (.d (.iface 193 (.agg [.val (.int .i64 e)]))) ?_
  refine xs 7 rfl (sf_ifnil rfl TT.under_20 rfl rfl ?_)
  refine XK.nz ?_
  refine QW.condF rfl ?_
  refine QW.skip bL (nrm ?_)
  refine sRb ?_
  refine xm 9 (.d (.iface 193 (.agg [.val (.int .i64 e)]))) ?_
  refine XK.pr (v := .d (.tuple [.agg (cfail (⟨e⟩ : fail)), .val (.bool true)])) (some 10) rfl rfl (pr_assert' TT.ifaceOK_193 rfl rfl) ?_
  refine xm 8 (.d (.tuple [.agg (cfail (⟨e⟩ : fail)), .val (.bool true)])) ?_
  refine xs 11 rfl (sf_extract (d := .agg (cfail (⟨e⟩ : fail))) rfl rfl rfl ?_)
  refine xs 12 rfl (sf_extract (d := .val (.bool true)) rfl rfl rfl ?_)
  refine xs 3 rfl (sf_alloc (l := [pI (0)]) rfl TT.zeroA_193 rfl rfl ?_)
  refine XK.st none rfl rfl (sf_stV (l' := [pI e]) rfl TT.tyA_193 rfl rfl rfl rfl rfl rfl (by simp) rfl ?_)
  refine xz 4 (pB true) ?_
  refine sRb ?_
  refine xm 13 (.vptr 0 0) ?_
  refine xs 14 rfl (sf_nilCheck (v := .vptr 0 0) rfl rfl rfl ?_)
  refine XK.st none rfl rfl (sf_stV (l' := [pI (2)]) rfl TT.tyA_25 rfl rfl rfl rfl rfl rfl (by simp) rfl ?_)
  refine XK.nz ?_
  refine sRb ?_
  refine xm 15 (pB true) ?_
  refine XK.nz ?_
  refine QW.condT rfl ?_
  refine rGb ?_
  refine xm 16 (.vptr 0 0) ?_
  refine xs 17 rfl (sf_fldV rfl TT.fldA_193_0 (by decide) rfl ?_)
  refine xs 18 rfl (sf_ldV (v := pI e) rfl TT.tyA_25 rfl rfl ⟨⟨by simp, by simp⟩, rfl⟩ ?_)
  refine xs 19 rfl (sf_nilCheck (v := .vptr 0 0) rfl rfl rfl ?_)
  refine XK.st none rfl rfl (sf_stV (l' := [pI e]) rfl TT.tyA_25 rfl rfl rfl rfl rfl rfl (by simp) rfl ?_)
  refine XK.nil ?_
  exact EndsV.none (s' := ⟨tab [], tabH [.var [pI e]], 1, []⟩) (.inl rfl) (View.mk 1 [0] _ _ _ rfl rfl (by decide) trivial (And.intro rfl trivial) rfl bL rfl) rfl rfl rfl
noncomputable def g_rlp_must (so0 : Bool) (e1 : Int) : Option (Unit ⊕ Int) :=
    (bif (!so0) then
    some (.inr e1)
    else
    some (.inl ()))
theorem sim_rlp_must (so0 : Bool) (e1 : Int) (r : (Unit ⊕ Int)) (h : g_rlp_must so0 e1 = some r) : Spec Try.prog 166 [pB so0, pI e1] (tabH []) 0 (postX (match r with | .inl x => Out.ret (.tuple []) | .inr e => Out.pan (.d (.iface 193 (.agg [.val (.int .i64 e)])))) (tabH []) 0) := by
  refine Spec.of_bodyS Try.func166 rfl (by simp [Try.ntmps166]) bL ?_
  rw [Try.ntmps166, TT.res_166]
  refine QW.view (s' := ⟨tab [(0, pB so0), (1, pI e1)], tabH [], 0, []⟩) (View.initP zL (by rfl)) zL ?_
  unfold g_rlp_must at h
  refine sR ?_
  refine xm 4 (pB so0) ?_
  refine xs 5 rfl (sf_not rfl rfl ?_)
  refine XK.nz ?_
  refine QW.cond (t := (!so0)) rfl zL (fun hb_1 => ?_) (fun hb_1 => ?_)
  · replace h := bT h hb_1
    refine rG ?_
    refine xm 6 (pI e1) ?_
    refine xs 7 rfl (sf_bld (v := .agg [pI e1]) rfl TT.bldA_193 (build_of rfl (fill_step (cells' := [pI e1]) rfl rfl rfl bL rfl fill_nil)) ?_)
    refine xs 8 rfl (sf_iface (y := .agg [.val (.int .i64 e1)]) rfl rfl TT.ifaceOK_193 ?_)
    refine XK.panic rfl rfl rfl ?_
    obtain rfl := sO h
    exact EndsS.pan (s' := ⟨tab [], tabH [], 0, []⟩) (View.mk 0 [] _ _ _ rfl rfl (by decide) trivial trivial rfl zL rfl) rfl bL (fun i hi => tabH_app [] [] i hi) rfl (by simp [HO.idsLts, HO.idsLt, PV.idsLts, PV.idsLt, idsLts_d, rowC])
  · replace h := bF h hb_1
    refine QW.skip zL ?_
    obtain rfl := sO h
    exact EndsS.none (s' := ⟨tab [], tabH [], 0, []⟩) (.inl rfl) (View.mk 0 [] _ _ _ rfl rfl (by decide) trivial trivial rfl zL rfl) rfl bL (fun i hi => tabH_app [] [] i hi) rfl (by simp [HO.idsLts, HO.idsLt, PV.idsLts, PV.idsLt, idsLts_d, rowC])
noncomputable def g_rlp_counter_one (depth1 : Int) (c0 : counter) : Option ((Unit ⊕ Int) × counter) :=
    gO (inI ((c0.fn) + (1 : Int))) (
    ((g_rlp_must (decide (depth1 ≤ (64 : Int))) (17)).bind fun xx => match xx with
    | .inl v_6 =>
        ((g_rlp_must (decide (((c0.fn) + (1 : Int)) ≤ (4096 : Int))) (4)).bind fun xx => match xx with
        | .inl v_11 =>
            some ((.inl ()), (⟨((c0.fn) + (1 : Int))⟩ : counter))
        | .inr e_10 =>
            some (.inr e_10, (⟨((c0.fn) + (1 : Int))⟩ : counter)))
    | .inr e_5 =>
        some (.inr e_5, (⟨((c0.fn) + (1 : Int))⟩ : counter))))
theorem sim_rlp_counter_one (depth1 : Int) (c0 : counter) (r : ((Unit ⊕ Int) × counter)) (h : g_rlp_counter_one depth1 c0 = some r) : Spec Try.prog 165 [.vptr 0 0, pI depth1] (tabH [.var [pI (c0.fn)]]) 1 (postX (match r.1 with | .inl x => Out.ret (.tuple []) | .inr e => Out.pan (.d (.iface 193 (.agg [.val (.int .i64 e)])))) (tabH [.var [pI ((r.2).fn)]]) 1) := by
  refine Spec.of_bodyS Try.func165 rfl (by simp [Try.ntmps165]) bL ?_
  rw [Try.ntmps165, TT.res_165]
  refine QW.view (s' := ⟨tab [(0, .vptr 0 0), (1, pI depth1)], tabH [.var [pI (c0.fn)]], 1, []⟩) (View.initP bL (by rfl)) bL ?_
  unfold g_rlp_counter_one at h
  refine sRb ?_
  refine xm 4 (.vptr 0 0) ?_
  refine xs 5 rfl (sf_nilCheck (v := .vptr 0 0) rfl rfl rfl ?_)
  refine xs 6 rfl (sf_fldV rfl TT.fldA_173_0 (by decide) rfl ?_)
  refine xs 7 rfl (sf_ldV (v := pI (c0.fn)) rfl TT.tyA_3 rfl rfl ⟨⟨by simp, by simp⟩, rfl⟩ ?_)
  obtain ⟨c_1, h⟩ := gO_get h
  refine xs 8 rfl (sf_add (a := (c0.fn)) (b := (1 : Int)) rfl rfl rfl c_1 ?_)
  refine xs 9 rfl (sf_nilCheck (v := .vptr 0 0) rfl rfl rfl ?_)
  refine xs 10 rfl (sf_fldV rfl TT.fldA_173_0 (by decide) rfl ?_)
  refine XK.st none rfl rfl (sf_stV (l' := [pI ((c0.fn) + (1 : Int))]) rfl TT.tyA_3 rfl rfl rfl rfl rfl rfl (by simp) rfl ?_)
  refine XK.nz ?_
  refine sRb ?_
  refine xm 11 (pI depth1) ?_
  refine xs 12 rfl (sf_leq (a := depth1) (b := (64 : Int)) rfl rfl rfl ?_)
  obtain ⟨v_6 | e_5, hx_3, h⟩ := bO h
  · refine XK.fr (p := .tuple []) (H2 := _) (nx2 := 1) (some 13) rfl rfl (xcall_frame [] rfl rfl TT.enters_166 (sim_rlp_must (decide (depth1 ≤ (64 : Int))) (17) _ hx_3) rfl rfl (by decide) trivial bL) rfl rfl rfl ?_
    refine XK.nz ?_
    refine rGb ?_
    refine xm 14 (.vptr 0 0) ?_
    refine xs 15 rfl (sf_nilCheck (v := .vptr 0 0) rfl rfl rfl ?_)
    refine xs 16 rfl (sf_fldV rfl TT.fldA_173_0 (by decide) rfl ?_)
    refine xs 17 rfl (sf_ldV (v := pI ((c0.fn) + (1 : Int))) rfl TT.tyA_3 rfl rfl ⟨⟨by simp, by simp⟩, rfl⟩ ?_)
    refine xs 18 rfl (sf_leq (a := ((c0.fn) + (1 : Int))) (b := (4096 : Int)) rfl rfl rfl ?_)
    obtain ⟨v_11 | e_10, hx_8, h⟩ := bO h
    · refine XK.fr (p := .tuple []) (H2 := _) (nx2 := 1) (some 19) rfl rfl (xcall_frame [] rfl rfl TT.enters_166 (sim_rlp_must (decide (((c0.fn) + (1 : Int)) ≤ (4096 : Int))) (4) _ hx_8) rfl rfl (by decide) trivial bL) rfl rfl rfl ?_
      refine XK.nil ?_
      obtain rfl := sO h
      exact EndsS.none (s' := ⟨tab [], tabH [.var [pI ((c0.fn) + (1 : Int))]], 1, []⟩) (.inl rfl) (View.mk 1 [0] _ _ _ rfl rfl (by decide) trivial (And.intro rfl trivial) rfl bL rfl) rfl bL (fun i hi => tabH_app [.var [pI ((c0.fn) + (1 : Int))]] [] i hi) rfl (by simp [HO.idsLts, HO.idsLt, PV.idsLts, PV.idsLt, idsLts_d, rowC])
    · refine XK.fp (p := .d (.iface 193 (.agg [.val (.int .i64 e_10)]))) (H2 := _) (nx2 := 1) rfl (xcall_frame [] rfl rfl TT.enters_166 (sim_rlp_must (decide (((c0.fn) + (1 : Int)) ≤ (4096 : Int))) (4) _ hx_8) rfl rfl (by decide) trivial bL) rfl rfl rfl ?_
      obtain rfl := sO h
      exact EndsS.pan (s' := ⟨tab [], tabH [.var [pI ((c0.fn) + (1 : Int))]], 1, []⟩) (View.mk 1 [0] _ _ _ rfl rfl (by decide) trivial (And.intro rfl trivial) rfl bL rfl) rfl bL (fun i hi => tabH_app [.var [pI ((c0.fn) + (1 : Int))]] [] i hi) rfl (by simp [HO.idsLts, HO.idsLt, PV.idsLts, PV.idsLt, idsLts_d, rowC])
  · refine XK.fp (p := .d (.iface 193 (.agg [.val (.int .i64 e_5)]))) (H2 := _) (nx2 := 1) rfl (xcall_frame [] rfl rfl TT.enters_166 (sim_rlp_must (decide (depth1 ≤ (64 : Int))) (17) _ hx_3) rfl rfl (by decide) trivial bL) rfl rfl rfl (thP ?_)
    obtain rfl := sO h
    exact EndsS.pan (s' := ⟨tab [], tabH [.var [pI ((c0.fn) + (1 : Int))]], 1, []⟩) (View.mk 1 [0] _ _ _ rfl rfl (by decide) trivial (And.intro rfl trivial) rfl bL rfl) rfl bL (fun i hi => tabH_app [.var [pI ((c0.fn) + (1 : Int))]] [] i hi) rfl (by simp [HO.idsLts, HO.idsLt, PV.idsLts, PV.idsLt, idsLts_d, rowC])
noncomputable def g_rlp_Text (s0 : (List UInt8)) : Option Item :=
    some (⟨false, s0, ([] : (List Item))⟩ : Item)
theorem sim_rlp_Text (s0 : (List UInt8)) (r : Item) (h : g_rlp_Text s0 = some r) : Fun Try.prog 97 [.val (sV s0)] (.agg (cItem r)) := by
  refine Fun.of_bodyQ Try.func97 rfl (by simp [Try.ntmps97]) ?_
  rw [Try.ntmps97, TT.res_97]
  refine QW.view (s' := ⟨tab [(0, pS s0)], tabH [], 0, []⟩) (View.init (by rfl)) zL ?_
  unfold g_rlp_Text at h
  refine sR ?_
  refine xs 2 rfl (sf_alloc (l := [pB false, pS ([] : List UInt8), .full (([] : (List Item)).map eItem)]) rfl TT.zeroA_125 rfl rfl ?_)
  refine XK.nz ?_
  refine sR ?_
  refine xm 3 (pS s0) ?_
  refine xs 4 rfl (sf_bld (v := .agg [pB false, pS s0, .full (([] : (List Item)).map eItem)]) rfl TT.bldA_125 (build_of rfl (fill_step (cells' := [pB false, pS s0, .full (([] : (List Item)).map eItem)]) rfl rfl rfl bL rfl fill_nil)) ?_)
  refine XK.st none rfl rfl (sf_stV (l' := [pB false, pS s0, .full (([] : (List Item)).map eItem)]) rfl TT.tyA_125 rfl rfl rfl rfl rfl rfl (by simp) rfl ?_)
  refine XK.nz ?_
  refine QW.ret zL ?_
  obtain rfl := sO h
  exact Ends.one (.inr rfl) rfl (ResIs.cell rfl rfl TT.tyA_125 ⟨⟨by simp, by simp⟩, rfl⟩) rfl rfl
inductive C_rlp_length where
  | S
  | L1 (v6 : Int) (v29 : Int)
noncomputable def step_rlp_length (s0 : (List UInt8)) (first1 : Int) : C_rlp_length → Option (C_rlp_length ⊕ ((Int × Int) ⊕ Int))
  | .S =>
    gO (0 ≤ (0 : Int) ∧ (0 : Int) < (s0.length : Int)) (
    gO (inI (((idx s0 (0 : Int)).toNat : Int) - first1)) (
    (bif (decide ((((idx s0 (0 : Int)).toNat : Int) - first1) ≤ (55 : Int))) then
    some (.inr (.inl ((((idx s0 (0 : Int)).toNat : Int) - first1), 1)))
    else
    gO (inI ((((idx s0 (0 : Int)).toNat : Int) - first1) - (55 : Int))) (
    ((g_rlp_must (decide (((((idx s0 (0 : Int)).toNat : Int) - first1) - (55 : Int)) < (s0.length : Int))) (5)).bind fun xx => match xx with
    | .inl v_9 =>
        gO (0 ≤ (1 : Int) ∧ (1 : Int) < (s0.length : Int)) (
        ((g_rlp_must (!decide (((idx s0 (1 : Int)).toNat : Int) = (0 : Int))) (6)).bind fun xx => match xx with
        | .inl v_15 =>
            some (.inl (.L1 (0) (0)))
        | .inr e_14 =>
            some (.inr (.inr e_14))))
    | .inr e_8 =>
        some (.inr (.inr e_8)))))))
  | .L1 v6 v29 =>
    (bif (decide (v29 < ((((idx s0 (0 : Int)).toNat : Int) - first1) - (55 : Int)))) then
    ((g_rlp_must (decide (v6 < (4294967296 : Int))) (5)).bind fun xx => match xx with
    | .inl v_22 =>
        gO (0 ≤ (8 : Int) ∧ inI (shlI v6 (8 : Int))) (
        gO (inI ((1 : Int) + v29)) (
        gO (0 ≤ ((1 : Int) + v29) ∧ ((1 : Int) + v29) < (s0.length : Int)) (
        gO (inI (v29 + (1 : Int))) (
        some (.inl (.L1 (orI (shlI v6 (8 : Int)) ((idx s0 ((1 : Int) + v29)).toNat : Int)) (v29 + (1 : Int))))))))
    | .inr e_21 =>
        some (.inr (.inr e_21)))
    else
    ((g_rlp_must (decide ((55 : Int) < v6)) (6)).bind fun xx => match xx with
    | .inl v_31 =>
        gO (inI ((1 : Int) + ((((idx s0 (0 : Int)).toNat : Int) - first1) - (55 : Int)))) (
        some (.inr (.inl (v6, ((1 : Int) + ((((idx s0 (0 : Int)).toNat : Int) - first1) - (55 : Int)))))))
    | .inr e_30 =>
        some (.inr (.inr e_30))))
noncomputable def g_rlp_length (s0 : (List UInt8)) (first1 : Int) : Option ((Int × Int) ⊕ Int) := theC (step_rlp_length s0 first1) .S
theorem sim_rlp_length (s0 : (List UInt8)) (first1 : Int) (r : ((Int × Int) ⊕ Int)) (h : g_rlp_length s0 first1 = some r) : Spec Try.prog 175 [pS s0, pI first1] (tabH []) 0 (postX (match r with | .inl x => Out.ret (.tuple [pI (x.1), pI (x.2)]) | .inr e => Out.pan (.d (.iface 193 (.agg [.val (.int .i64 e)])))) (tabH []) 0) := by
  refine Spec.of_bodyS Try.func175 rfl (by simp [Try.ntmps175]) bL ?_
  rw [Try.ntmps175, TT.res_175]
  refine QW.view (s' := ⟨tab [(0, pS s0), (1, pI first1)], tabH [], 0, []⟩) (View.initP zL (by rfl)) zL ?_
  replace h := theC_get h
  obtain ⟨_, h⟩ := h
  obtain ⟨k_0, rfl, h9⟩ := run_succ h; replace h := h9; clear h9; rw [step_rlp_length] at h
  refine sR ?_
  refine xa 4 (pI (0)) ?_
  refine xz 5 (pI (0)) ?_
  refine sR ?_
  refine xm 9 (pS s0) ?_
  obtain ⟨c_1, h⟩ := gG h
  refine xs 10 rfl (sf_idxS (l := s0) (i := (0 : Int)) rfl TT.under_9 TT.arrA_9 rfl rfl c_1 ?_)
  refine xs 11 rfl (sf_toI (n := ((idx s0 (0 : Int)).toNat : Int)) rfl TT.under_5 TT.under_3 rfl (inI_u8 _) ?_)
  refine xm 12 (pI first1) ?_
  obtain ⟨c_2, h⟩ := gG h
  refine xs 13 rfl (sf_sub (a := ((idx s0 (0 : Int)).toNat : Int)) (b := first1) rfl rfl rfl c_2 ?_)
  refine xz 6 (pI (((idx s0 (0 : Int)).toNat : Int) - first1)) ?_
  refine QW.seq ?_
  refine sR ?_
  refine xm 14 (pI (((idx s0 (0 : Int)).toNat : Int) - first1)) ?_
  refine xs 15 rfl (sf_leq (a := (((idx s0 (0 : Int)).toNat : Int) - first1)) (b := (55 : Int)) rfl rfl rfl ?_)
  refine XK.nz ?_
  refine QW.cond (t := (decide ((((idx s0 (0 : Int)).toNat : Int) - first1) ≤ (55 : Int)))) rfl zL (fun hb_3 => ?_) (fun hb_3 => ?_)
  · replace h := bGT h hb_3
    refine sR ?_
    refine xm 16 (pI (((idx s0 (0 : Int)).toNat : Int) - first1)) ?_
    refine xa 4 (pI (((idx s0 (0 : Int)).toNat : Int) - first1)) ?_
    refine xz 5 (pI (1)) ?_
    refine QW.ret zL (thR ?_)
    obtain rfl := sG h
    exact EndsS.more (s' := ⟨tab [(4, pI (((idx s0 (0 : Int)).toNat : Int) - first1)), (5, pI (1))], tabH [], 0, []⟩) (ps := [pI (((idx s0 (0 : Int)).toNat : Int) - first1), pI (1)]) (.inr rfl) (View.mk 0 [] _ _ _ rfl rfl (by decide) (iC (iC trivial)) trivial rfl zL rfl) rfl bL (fun i hi => tabH_app [] [] i hi) rfl (by simp [HO.idsLts, HO.idsLt, PV.idsLts, PV.idsLt, idsLts_d, rowC]) (And.intro (ResIs.tmp rfl) (And.intro (ResIs.tmp rfl) trivial)) (by simp [PV.idsLts, PV.idsLt, idsLts_d])
  · replace h := bGF h hb_3
    refine QW.skip zL (nrm ?_)
    refine sR ?_
    refine xm 17 (pI (((idx s0 (0 : Int)).toNat : Int) - first1)) ?_
    obtain ⟨c_4, h⟩ := gG h
    refine xs 18 rfl (sf_sub (a := (((idx s0 (0 : Int)).toNat : Int) - first1)) (b := (55 : Int)) rfl rfl rfl c_4 ?_)
    refine xz 7 (pI ((((idx s0 (0 : Int)).toNat : Int) - first1) - (55 : Int))) ?_
    refine sR ?_
    refine xm 19 (pS s0) ?_
    refine xs 20 rfl (sf_lenS (l := s0) rfl TT.under_9 rfl ?_)
    refine xm 21 (pI ((((idx s0 (0 : Int)).toNat : Int) - first1) - (55 : Int))) ?_
    refine xs 22 rfl (sf_gtr (a := (s0.length : Int)) (b := ((((idx s0 (0 : Int)).toNat : Int) - first1) - (55 : Int))) rfl rfl rfl ?_)
    obtain ⟨v_9 | e_8, hx_6, h⟩ := bG h
    · refine XK.fr (p := .tuple []) (H2 := _) (nx2 := 0) (some 23) rfl rfl (xcall_frame [] rfl rfl TT.enters_166 (sim_rlp_must (decide (((((idx s0 (0 : Int)).toNat : Int) - first1) - (55 : Int)) < (s0.length : Int))) (5) _ hx_6) rfl rfl (by decide) trivial bL) rfl rfl rfl ?_
      refine XK.nz ?_
      refine sR ?_
      refine xm 24 (pS s0) ?_
      obtain ⟨c_10, h⟩ := gG h
      refine xs 25 rfl (sf_idxS (l := s0) (i := (1 : Int)) rfl TT.under_9 TT.arrA_9 rfl rfl c_10 ?_)
      refine xs 26 rfl (sf_ne (a := ((idx s0 (1 : Int)).toNat : Int)) (b := (0 : Int)) rfl rfl rfl ?_)
      obtain ⟨v_15 | e_14, hx_12, h⟩ := bG h
      · refine XK.fr (p := .tuple []) (H2 := _) (nx2 := 0) (some 27) rfl rfl (xcall_frame [] rfl rfl TT.enters_166 (sim_rlp_must (!decide (((idx s0 (1 : Int)).toNat : Int) = (0 : Int))) (6) _ hx_12) rfl rfl (by decide) trivial bL) rfl rfl rfl ?_
        refine XK.nz ?_
        refine sR ?_
        refine xz 6 (pI (0)) ?_
        refine QW.seq ?_
        refine sR ?_
        refine xm 28 (pI ((((idx s0 (0 : Int)).toNat : Int) - first1) - (55 : Int))) ?_
        refine xm 29 (pI (0)) ?_
        refine XK.nz ?_
        refine QW.block ?_
        refine QW.loop (fun k σ => ∃ v6 : Int, ∃ v29 : Int, k ≤ k_0 ∧ run (step_rlp_length s0 first1) k (.L1 v6 v29) = some r ∧ σ = ⟨tab [(0, pS s0), (6, pI v6), (7, pI ((((idx s0 (0 : Int)).toNat : Int) - first1) - (55 : Int))), (28, pI ((((idx s0 (0 : Int)).toNat : Int) - first1) - (55 : Int))), (29, pI v29)], tabH [], 0, []⟩) k_0 zL ⟨⟨tab [(0, pS s0), (6, pI (0)), (7, pI ((((idx s0 (0 : Int)).toNat : Int) - first1) - (55 : Int))), (28, pI ((((idx s0 (0 : Int)).toNat : Int) - first1) - (55 : Int))), (29, pI (0))], tabH [], 0, []⟩, View.mk 0 [] _ _ _ rfl rfl (by decide) (iC (iC (iC (iC (iC trivial))))) trivial rfl zL rfl, 0, 0, Nat.le_refl _, jG h, rfl⟩ ?_
        rintro k_16s _ ⟨v6, v29, k_16h, h, rfl⟩
        obtain ⟨k_16, rfl, h9⟩ := run_succ h; replace h := h9; clear h9; rw [step_rlp_length] at h
        refine sR ?_
        refine xs 30 rfl (sf_lss (a := v29) (b := ((((idx s0 (0 : Int)).toNat : Int) - first1) - (55 : Int))) rfl rfl rfl ?_)
        refine XK.nz ?_
        refine QW.seq ?_
        refine QW.cond (t := (decide (v29 < ((((idx s0 (0 : Int)).toNat : Int) - first1) - (55 : Int))))) rfl zL (fun hb_17 => ?_) (fun hb_17 => ?_)
        · replace h := bGT h hb_17
          refine QW.skip zL (nrm ?_)
          refine QW.seq ?_
          refine QW.block ?_
          refine sR ?_
          refine xm 31 (pI v29) ?_
          refine xz 8 (pI v29) ?_
          refine sR ?_
          refine xm 32 (pI v6) ?_
          refine xs 33 rfl (sf_lss (a := v6) (b := (4294967296 : Int)) rfl rfl rfl ?_)
          obtain ⟨v_22 | e_21, hx_19, h⟩ := bG h
          · refine XK.fr (p := .tuple []) (H2 := _) (nx2 := 0) (some 34) rfl rfl (xcall_frame [] rfl rfl TT.enters_166 (sim_rlp_must (decide (v6 < (4294967296 : Int))) (5) _ hx_19) rfl rfl (by decide) trivial bL) rfl rfl rfl ?_
            refine XK.nz ?_
            refine rG ?_
            refine xm 35 (pI v6) ?_
            obtain ⟨c_23, h⟩ := gG h
            refine xs 36 rfl (sf_shl (a := v6) (b := (8 : Int)) rfl rfl rfl c_23 ?_)
            refine xm 37 (pS s0) ?_
            refine xm 38 (pI v29) ?_
            obtain ⟨c_24, h⟩ := gG h
            refine xs 39 rfl (sf_add (a := (1 : Int)) (b := v29) rfl rfl rfl c_24 ?_)
            obtain ⟨c_25, h⟩ := gG h
            refine xs 40 rfl (sf_idxS (l := s0) (i := ((1 : Int) + v29)) rfl TT.under_9 TT.arrA_9 rfl rfl c_25 ?_)
            refine xs 41 rfl (sf_toI (n := ((idx s0 ((1 : Int) + v29)).toNat : Int)) rfl TT.under_5 TT.under_3 rfl (inI_u8 _) ?_)
            refine xs 42 rfl (sf_or (a := (shlI v6 (8 : Int))) (b := ((idx s0 ((1 : Int) + v29)).toNat : Int)) rfl rfl rfl ?_)
            refine xa 6 (pI (orI (shlI v6 (8 : Int)) ((idx s0 ((1 : Int) + v29)).toNat : Int))) ?_
            refine XK.nil (blN (nrm ?_))
            refine rG ?_
            obtain ⟨c_26, h⟩ := gG h
            refine xs 43 rfl (sf_add (a := v29) (b := (1 : Int)) rfl rfl rfl c_26 ?_)
            refine xm 29 (pI (v29 + (1 : Int))) ?_
            refine XK.nz ?_
            exact ⟨k_16, by omega, ⟨tab [(0, pS s0), (6, pI (orI (shlI v6 (8 : Int)) ((idx s0 ((1 : Int) + v29)).toNat : Int))), (7, pI ((((idx s0 (0 : Int)).toNat : Int) - first1) - (55 : Int))), (28, pI ((((idx s0 (0 : Int)).toNat : Int) - first1) - (55 : Int))), (29, pI (v29 + (1 : Int)))], tabH [], 0, []⟩, View.mk 0 [] _ _ _ rfl rfl (by decide) (iC (iC (iC (iC (iC trivial))))) trivial rfl zL rfl, (orI (shlI v6 (8 : Int)) ((idx s0 ((1 : Int) + v29)).toNat : Int)), (v29 + (1 : Int)), by omega, jG h, rfl⟩
          · refine XK.fp (p := .d (.iface 193 (.agg [.val (.int .i64 e_21)]))) (H2 := _) (nx2 := 0) rfl (xcall_frame [] rfl rfl TT.enters_166 (sim_rlp_must (decide (v6 < (4294967296 : Int))) (5) _ hx_19) rfl rfl (by decide) trivial bL) rfl rfl rfl (thP (blP (thP (thP (blP (thP ?_))))))
            obtain rfl := sG h
            exact EndsS.pan (s' := ⟨tab [], tabH [], 0, []⟩) (View.mk 0 [] _ _ _ rfl rfl (by decide) trivial trivial rfl zL rfl) rfl bL (fun i hi => tabH_app [] [] i hi) rfl (by simp [HO.idsLts, HO.idsLt, PV.idsLts, PV.idsLt, idsLts_d, rowC])
        · replace h := bGF h hb_17
          refine QW.exit zL (thX (thX (exE (nrm ?_))))
          refine sR ?_
          refine xm 44 (pI v6) ?_
          refine xs 45 rfl (sf_gtr (a := v6) (b := (55 : Int)) rfl rfl rfl ?_)
          obtain ⟨v_31 | e_30, hx_28, h⟩ := bG h
          · refine XK.fr (p := .tuple []) (H2 := _) (nx2 := 0) (some 46) rfl rfl (xcall_frame [] rfl rfl TT.enters_166 (sim_rlp_must (decide ((55 : Int) < v6)) (6) _ hx_28) rfl rfl (by decide) trivial bL) rfl rfl rfl ?_
            refine XK.nz ?_
            refine sR ?_
            refine xm 47 (pI v6) ?_
            refine xm 48 (pI ((((idx s0 (0 : Int)).toNat : Int) - first1) - (55 : Int))) ?_
            obtain ⟨c_32, h⟩ := gG h
            refine xs 49 rfl (sf_add (a := (1 : Int)) (b := ((((idx s0 (0 : Int)).toNat : Int) - first1) - (55 : Int))) rfl rfl rfl c_32 ?_)
            refine xa 4 (pI v6) ?_
            refine xz 5 (pI ((1 : Int) + ((((idx s0 (0 : Int)).toNat : Int) - first1) - (55 : Int)))) ?_
            refine QW.ret zL ?_
            obtain rfl := sG h
            exact EndsS.more (s' := ⟨tab [(4, pI v6), (5, pI ((1 : Int) + ((((idx s0 (0 : Int)).toNat : Int) - first1) - (55 : Int))))], tabH [], 0, []⟩) (ps := [pI v6, pI ((1 : Int) + ((((idx s0 (0 : Int)).toNat : Int) - first1) - (55 : Int)))]) (.inr rfl) (View.mk 0 [] _ _ _ rfl rfl (by decide) (iC (iC trivial)) trivial rfl zL rfl) rfl bL (fun i hi => tabH_app [] [] i hi) rfl (by simp [HO.idsLts, HO.idsLt, PV.idsLts, PV.idsLt, idsLts_d, rowC]) (And.intro (ResIs.tmp rfl) (And.intro (ResIs.tmp rfl) trivial)) (by simp [PV.idsLts, PV.idsLt, idsLts_d])
          · refine XK.fp (p := .d (.iface 193 (.agg [.val (.int .i64 e_30)]))) (H2 := _) (nx2 := 0) rfl (xcall_frame [] rfl rfl TT.enters_166 (sim_rlp_must (decide ((55 : Int) < v6)) (6) _ hx_28) rfl rfl (by decide) trivial bL) rfl rfl rfl (thP ?_)
            obtain rfl := sG h
            exact EndsS.pan (s' := ⟨tab [], tabH [], 0, []⟩) (View.mk 0 [] _ _ _ rfl rfl (by decide) trivial trivial rfl zL rfl) rfl bL (fun i hi => tabH_app [] [] i hi) rfl (by simp [HO.idsLts, HO.idsLt, PV.idsLts, PV.idsLt, idsLts_d, rowC])
      · refine XK.fp (p := .d (.iface 193 (.agg [.val (.int .i64 e_14)]))) (H2 := _) (nx2 := 0) rfl (xcall_frame [] rfl rfl TT.enters_166 (sim_rlp_must (!decide (((idx s0 (1 : Int)).toNat : Int) = (0 : Int))) (6) _ hx_12) rfl rfl (by decide) trivial bL) rfl rfl rfl (thP ?_)
        obtain rfl := sG h
        exact EndsS.pan (s' := ⟨tab [], tabH [], 0, []⟩) (View.mk 0 [] _ _ _ rfl rfl (by decide) trivial trivial rfl zL rfl) rfl bL (fun i hi => tabH_app [] [] i hi) rfl (by simp [HO.idsLts, HO.idsLt, PV.idsLts, PV.idsLt, idsLts_d, rowC])
    · refine XK.fp (p := .d (.iface 193 (.agg [.val (.int .i64 e_8)]))) (H2 := _) (nx2 := 0) rfl (xcall_frame [] rfl rfl TT.enters_166 (sim_rlp_must (decide (((((idx s0 (0 : Int)).toNat : Int) - first1) - (55 : Int)) < (s0.length : Int))) (5) _ hx_6) rfl rfl (by decide) trivial bL) rfl rfl rfl (thP ?_)
      obtain rfl := sG h
      exact EndsS.pan (s' := ⟨tab [], tabH [], 0, []⟩) (View.mk 0 [] _ _ _ rfl rfl (by decide) trivial trivial rfl zL rfl) rfl bL (fun i hi => tabH_app [] [] i hi) rfl (by simp [HO.idsLts, HO.idsLt, PV.idsLts, PV.idsLt, idsLts_d, rowC])
inductive C_rlp_counter_get where
  | S
  | L2 (v10_2 : Int) (v11_2 : Int) (v12_2 : (List UInt8)) (c0_0_2 : Int) (v13_2 : (List Item))
noncomputable def step_rlp_counter_get (self : (List UInt8) → Int → counter → Option (((Item × Int) ⊕ Int) × counter)) (s1 : (List UInt8)) (depth2 : Int) (c0 : counter) : C_rlp_counter_get → Option (C_rlp_counter_get ⊕ (((Item × Int) ⊕ Int) × counter))
  | .S =>
    ((g_rlp_counter_one depth2 c0).bind fun xx => match xx with
    | (.inl v_6, c_3) =>
        ((g_rlp_must (!(s1 == ([] : List UInt8))) (5)).bind fun xx => match xx with
        | .inl v_11 =>
            gO (0 ≤ (0 : Int) ∧ (0 : Int) < (s1.length : Int)) (
            (bif (decide (((idx s1 (0 : Int)).toNat : Int) < (128 : Int))) then
            gO (0 ≤ (0 : Int) ∧ (0 : Int) ≤ (1 : Int) ∧ (1 : Int) ≤ (s1.length : Int)) (
            ((g_rlp_Text (sub s1 (0 : Int) (1 : Int))).bind fun (x_15 : Item) =>
            some (.inr ((.inl (x_15, 1)), c_3))))
            else
            gO (0 ≤ (0 : Int) ∧ (0 : Int) < (s1.length : Int)) (
            (((bif (decide ((192 : Int) ≤ ((idx s1 (0 : Int)).toNat : Int))) then
            some (192)
            else
            some (128)) : Option Int).bind fun (v9 : Int) =>
            ((g_rlp_length s1 v9).bind fun xx => match xx with
            | .inl v_23 =>
                gO (inI ((s1.length : Int) - (v_23.2))) (
                ((g_rlp_must (decide ((v_23.1) ≤ ((s1.length : Int) - (v_23.2)))) (5)).bind fun xx => match xx with
                | .inl v_29 =>
                    gO (inI ((v_23.2) + (v_23.1))) (
                    gO (0 ≤ (v_23.2) ∧ (v_23.2) ≤ ((v_23.2) + (v_23.1)) ∧ ((v_23.2) + (v_23.1)) ≤ (s1.length : Int)) (
                    (bif (!(decide ((192 : Int) ≤ ((idx s1 (0 : Int)).toNat : Int)))) then
                    gO ((!decide ((v_23.1) = (1 : Int))) = false → 0 ≤ (0 : Int) ∧ (0 : Int) < ((sub s1 (v_23.2) ((v_23.2) + (v_23.1))).length : Int)) (
                    ((g_rlp_must ((!decide ((v_23.1) = (1 : Int))) || (decide ((128 : Int) ≤ ((idx (sub s1 (v_23.2) ((v_23.2) + (v_23.1))) (0 : Int)).toNat : Int)))) (6)).bind fun xx => match xx with
                    | .inl v_38 =>
                        ((g_rlp_Text (sub s1 (v_23.2) ((v_23.2) + (v_23.1)))).bind fun (x_39 : Item) =>
                        gO (inI ((v_23.2) + (v_23.1))) (
                        some (.inr ((.inl (x_39, ((v_23.2) + (v_23.1)))), c_3))))
                    | .inr e_37 =>
                        some (.inr (.inr e_37, c_3))))
                    else
                    some (.inl (.L2 (v_23.1) (v_23.2) (sub s1 (v_23.2) ((v_23.2) + (v_23.1))) (c_3.fn) ([] : (List Item)))))))
                | .inr e_28 =>
                    some (.inr (.inr e_28, c_3))))
            | .inr e_22 =>
                some (.inr (.inr e_22, c_3)))))))
        | .inr e_10 =>
            some (.inr (.inr e_10, c_3)))
    | (.inr e_5, c_3) =>
        some (.inr (.inr e_5, c_3)))
  | .L2 v10_2 v11_2 v12_2 c0_0_2 v13_2 =>
    (bif (!(v12_2 == ([] : List UInt8))) then
    gO (inI (depth2 + (1 : Int))) (
    ((self v12_2 (depth2 + (1 : Int)) (⟨c0_0_2⟩ : counter)).bind fun xx => match xx with
    | (.inl v_50, c_47) =>
        gO ((v13_2.length + ([v_50.1] : List Item).length) * 48 ≤ 140737488355328) (
        gO (0 ≤ (v_50.2) ∧ (v_50.2) ≤ (v12_2.length : Int) ∧ (v12_2.length : Int) ≤ (v12_2.length : Int)) (
        some (.inl (.L2 v10_2 v11_2 (sub v12_2 (v_50.2) (v12_2.length : Int)) (c_47.fn) (v13_2 ++ ([v_50.1] : List Item))))))
    | (.inr e_49, c_47) =>
        some (.inr (.inr e_49, c_47))))
    else
    gO (inI (v11_2 + v10_2)) (
    some (.inr ((.inl ((⟨true, ([] : List UInt8), v13_2⟩ : Item), (v11_2 + v10_2))), (⟨c0_0_2⟩ : counter)))))
noncomputable def gs_rlp_counter_get (self : (List UInt8) → Int → counter → Option (((Item × Int) ⊕ Int) × counter)) (s1 : (List UInt8)) (depth2 : Int) (c0 : counter) : Option (((Item × Int) ⊕ Int) × counter) := theC (step_rlp_counter_get self s1 depth2 c0) .S
theorem sims_rlp_counter_get (self : (List UInt8) → Int → counter → Option (((Item × Int) ⊕ Int) × counter)) (hself : ∀ (y0 : (List UInt8)) (y1 : Int) (y2 : counter) (rr : (((Item × Int) ⊕ Int) × counter)), self y0 y1 y2 = some rr → Spec Try.prog 169 [.vptr 0 0, pS y0, pI y1] (tabH [.var [pI (y2.fn)]]) 1 (postX (match rr.1 with | .inl x => Out.ret (.tuple [.agg [pB ((x.1).fList), pS ((x.1).fS), .d (.slice (((x.1).fL).map eItem))], pI (x.2)]) | .inr e => Out.pan (.d (.iface 193 (.agg [.val (.int .i64 e)])))) (tabH [.var [pI ((rr.2).fn)]]) 1)) (s1 : (List UInt8)) (depth2 : Int) (c0 : counter) (r : (((Item × Int) ⊕ Int) × counter)) (h : gs_rlp_counter_get self s1 depth2 c0 = some r) : Spec Try.prog 169 [.vptr 0 0, pS s1, pI depth2] (tabH [.var [pI (c0.fn)]]) 1 (postX (match r.1 with | .inl x => Out.ret (.tuple [.agg [pB ((x.1).fList), pS ((x.1).fS), .d (.slice (((x.1).fL).map eItem))], pI (x.2)]) | .inr e => Out.pan (.d (.iface 193 (.agg [.val (.int .i64 e)])))) (tabH [.var [pI ((r.2).fn)]]) 1) := by
  refine Spec.of_bodyS Try.func169 rfl (by simp [Try.ntmps169]) bL ?_
  rw [Try.ntmps169, TT.res_169]
  refine QW.view (s' := ⟨tab [(0, .vptr 0 0), (1, pS s1), (2, pI depth2)], tabH [.var [pI (c0.fn)]], 1, []⟩) (View.initP bL (by rfl)) bL ?_
  replace h := theC_get h
  obtain ⟨_, h⟩ := h
  obtain ⟨k_0, rfl, h9⟩ := run_succ h; replace h := h9; clear h9; rw [step_rlp_counter_get] at h
  refine sRb ?_
  refine xs 6 rfl (sf_alloc (l := [pB false, pS ([] : List UInt8), .full (([] : (List Item)).map eItem)]) rfl TT.zeroA_125 rfl rfl ?_)
  refine xz 7 (pI (0)) ?_
  refine sRb ?_
  refine xm 16 (.vptr 0 0) ?_
  refine xm 17 (pI depth2) ?_
  obtain ⟨⟨v_6 | e_5, c_3⟩, hx_2, h⟩ := bG h
  · refine XK.fr (p := .tuple []) (H2 := putH _ 0 (some (.var [pI (c_3.fn)]))) (nx2 := 2) (some 18) rfl rfl (xcall_frame [0] rfl rfl TT.enters_165 (sim_rlp_counter_one depth2 c0 _ hx_2) rfl rfl (by decide) (And.intro rfl trivial) bL) rfl rfl rfl ?_
    refine XK.nz ?_
    refine sRb ?_
    refine xm 19 (pS s1) ?_
    refine xs 20 rfl (sf_sne (a := s1) (b := ([] : List UInt8)) rfl rfl rfl ?_)
    obtain ⟨v_11 | e_10, hx_8, h⟩ := bG h
    · refine XK.fr (p := .tuple []) (H2 := _) (nx2 := 2) (some 21) rfl rfl (xcall_frame [] rfl rfl TT.enters_166 (sim_rlp_must (!(s1 == ([] : List UInt8))) (5) _ hx_8) rfl rfl (by decide) trivial bL) rfl rfl rfl ?_
      refine XK.nz ?_
      refine QW.seq ?_
      refine sRb ?_
      refine xm 22 (pS s1) ?_
      obtain ⟨c_12, h⟩ := gG h
      refine xs 23 rfl (sf_idxS (l := s1) (i := (0 : Int)) rfl TT.under_9 TT.arrA_9 rfl rfl c_12 ?_)
      refine xs 24 rfl (sf_lss (a := ((idx s1 (0 : Int)).toNat : Int)) (b := (128 : Int)) rfl rfl rfl ?_)
      refine XK.nz ?_
      refine QW.cond (t := (decide (((idx s1 (0 : Int)).toNat : Int) < (128 : Int)))) rfl bL (fun hb_13 => ?_) (fun hb_13 => ?_)
      · replace h := bGT h hb_13
        refine sRb ?_
        refine xm 25 (pS s1) ?_
        obtain ⟨c_14, h⟩ := gG h
        refine xs 26 rfl (sf_subS (l := s1) (a := (0 : Int)) (b := (1 : Int)) rfl TT.under_9 rfl rfl rfl c_14 ?_)
        obtain ⟨x_15, hx_16, h⟩ := bG h
        refine xs 27 rfl (sf_call rfl rfl TT.enters_97 rfl (sim_rlp_Text (sub s1 (0 : Int) (1 : Int)) _ hx_16) ?_)
        refine XK.st none rfl rfl (sf_stV (l' := [pB (x_15.fList), pS (x_15.fS), .d (.slice ((x_15.fL).map eItem))]) rfl TT.tyA_125 rfl rfl rfl rfl rfl rfl (by simp) rfl ?_)
        refine xz 7 (pI (1)) ?_
        refine QW.ret bL (thR ?_)
        obtain rfl := sG h
        exact EndsS.more (s' := ⟨tab [(6, .vptr 1 0), (7, pI (1))], tabH [.var [pI (c_3.fn)], .var [pB (x_15.fList), pS (x_15.fS), .d (.slice ((x_15.fL).map eItem))]], 2, []⟩) (ps := [.agg [pB (x_15.fList), pS (x_15.fS), .d (.slice ((x_15.fL).map eItem))], pI (1)]) (.inr rfl) (View.mk 2 [0, 1] _ _ _ rfl rfl (by decide) (iC (iC trivial)) (And.intro rfl (And.intro rfl trivial)) rfl bL rfl) rfl bL (fun i hi => tabH_app [.var [pI (c_3.fn)]] [.var [pB (x_15.fList), pS (x_15.fS), .d (.slice ((x_15.fL).map eItem))]] i hi) rfl (by simp [HO.idsLts, HO.idsLt, PV.idsLts, PV.idsLt, idsLts_d, rowC]) (And.intro (ResIs.cell rfl rfl TT.tyA_125 ⟨⟨by simp, by simp⟩, rfl⟩) (And.intro (ResIs.tmp rfl) trivial)) (by simp [PV.idsLts, PV.idsLt, idsLts_d])
      · replace h := bGF h hb_13
        refine QW.skip bL (nrm ?_)
        refine sRb ?_
        refine xm 28 (pS s1) ?_
        obtain ⟨c_17, h⟩ := gG h
        refine xs 29 rfl (sf_idxS (l := s1) (i := (0 : Int)) rfl TT.under_9 TT.arrA_9 rfl rfl c_17 ?_)
        refine xs 30 rfl (sf_geq (a := ((idx s1 (0 : Int)).toNat : Int)) (b := (192 : Int)) rfl rfl rfl ?_)
        refine xz 8 (pB (decide ((192 : Int) ≤ ((idx s1 (0 : Int)).toNat : Int)))) ?_
        refine sRb ?_
        refine xz 9 (pI (128)) ?_
        obtain ⟨v9, hq, h⟩ := bG h
        refine QW.seqI (fun s' => s' = ⟨tab [(0, .vptr 0 0), (1, pS s1), (2, pI depth2), (6, .vptr 1 0), (8, pB (decide ((192 : Int) ≤ ((idx s1 (0 : Int)).toNat : Int)))), (9, pI v9)], tabH [.var [pI (c_3.fn)], .var [pB false, pS ([] : List UInt8), .full (([] : (List Item)).map eItem)]], 2, []⟩) ?_ ?_
        · replace h := hq; clear hq
          refine sRb ?_
          refine xm 31 (pB (decide ((192 : Int) ≤ ((idx s1 (0 : Int)).toNat : Int)))) ?_
          refine XK.nz ?_
          refine QW.cond (t := (decide ((192 : Int) ≤ ((idx s1 (0 : Int)).toNat : Int)))) rfl bL (fun hb_18 => ?_) (fun hb_18 => ?_)
          · replace h := bT h hb_18
            refine rGb ?_
            refine xz 9 (pI (192)) ?_
            obtain rfl := sO h
            exact ⟨⟨tab [(0, .vptr 0 0), (1, pS s1), (2, pI depth2), (6, .vptr 1 0), (8, pB (decide ((192 : Int) ≤ ((idx s1 (0 : Int)).toNat : Int)))), (9, pI (192))], tabH [.var [pI (c_3.fn)], .var [pB false, pS ([] : List UInt8), .full (([] : (List Item)).map eItem)]], 2, []⟩, View.mk 2 [0, 1] _ _ _ rfl rfl (by decide) (iC (iC (iC (iC (iC (iC trivial)))))) (And.intro rfl (And.intro rfl trivial)) rfl bL rfl, rfl⟩
          · replace h := bF h hb_18
            refine QW.skip bL (nrm ?_)
            obtain rfl := sO h
            exact ⟨⟨tab [(0, .vptr 0 0), (1, pS s1), (2, pI depth2), (6, .vptr 1 0), (8, pB (decide ((192 : Int) ≤ ((idx s1 (0 : Int)).toNat : Int)))), (9, pI (128))], tabH [.var [pI (c_3.fn)], .var [pB false, pS ([] : List UInt8), .full (([] : (List Item)).map eItem)]], 2, []⟩, View.mk 2 [0, 1] _ _ _ rfl rfl (by decide) (iC (iC (iC (iC (iC (iC trivial)))))) (And.intro rfl (And.intro rfl trivial)) rfl bL rfl, rfl⟩
        · rintro _ rfl
          refine sRb ?_
          refine xm 33 (pS s1) ?_
          refine xm 34 (pI v9) ?_
          obtain ⟨v_23 | e_22, hx_20, h⟩ := bG h
          · refine XK.fr (p := .tuple [pI (v_23.1), pI (v_23.2)]) (H2 := _) (nx2 := 2) (some 35) rfl rfl (xcall_frame [] rfl rfl TT.enters_175 (sim_rlp_length s1 v9 _ hx_20) rfl rfl (by decide) trivial bL) rfl rfl rfl ?_
            refine xm 32 (.tuple [pI (v_23.1), pI (v_23.2)]) ?_
            refine xs 36 rfl (sf_extractP rfl rfl rfl ?_)
            refine xs 37 rfl (sf_extractP rfl rfl rfl ?_)
            refine xa 10 (pI (v_23.1)) ?_
            refine xz 11 (pI (v_23.2)) ?_
            refine sRb ?_
            refine xm 38 (pI (v_23.1)) ?_
            refine xm 39 (pS s1) ?_
            refine xs 40 rfl (sf_lenS (l := s1) rfl TT.under_9 rfl ?_)
            refine xm 41 (pI (v_23.2)) ?_
            obtain ⟨c_24, h⟩ := gG h
            refine xs 42 rfl (sf_sub (a := (s1.length : Int)) (b := (v_23.2)) rfl rfl rfl c_24 ?_)
            refine xs 43 rfl (sf_leq (a := (v_23.1)) (b := ((s1.length : Int) - (v_23.2))) rfl rfl rfl ?_)
            obtain ⟨v_29 | e_28, hx_26, h⟩ := bG h
            · refine XK.fr (p := .tuple []) (H2 := _) (nx2 := 2) (some 44) rfl rfl (xcall_frame [] rfl rfl TT.enters_166 (sim_rlp_must (decide ((v_23.1) ≤ ((s1.length : Int) - (v_23.2)))) (5) _ hx_26) rfl rfl (by decide) trivial bL) rfl rfl rfl ?_
              refine XK.nz ?_
              refine QW.seq ?_
              refine QW.view (s' := ⟨tab [(0, .vptr 0 0), (1, pS s1), (2, pI depth2), (6, .vptr 1 0), (8, pB (decide ((192 : Int) ≤ ((idx s1 (0 : Int)).toNat : Int)))), (10, pI (v_23.1)), (11, pI (v_23.2))], tabH [.var [pI (c_3.fn)], .var [pB false, pS ([] : List UInt8), .full (([] : (List Item)).map eItem)]], 2, []⟩) (View.mk 2 [0, 1] _ _ _ rfl rfl (by decide) (iC (iC (iC (iC (iC (iC (iC trivial))))))) (And.intro rfl (And.intro rfl trivial)) rfl bL rfl) bL ?_
              refine rGb ?_
              refine xm 45 (pS s1) ?_
              refine xm 46 (pI (v_23.2)) ?_
              refine xm 47 (pI (v_23.2)) ?_
              refine xm 48 (pI (v_23.1)) ?_
              obtain ⟨c_30, h⟩ := gG h
              refine xs 49 rfl (sf_add (a := (v_23.2)) (b := (v_23.1)) rfl rfl rfl c_30 ?_)
              obtain ⟨c_31, h⟩ := gG h
              refine xs 50 rfl (sf_subS (l := s1) (a := (v_23.2)) (b := ((v_23.2) + (v_23.1))) rfl TT.under_9 rfl rfl rfl c_31 ?_)
              refine xz 12 (pS (sub s1 (v_23.2) ((v_23.2) + (v_23.1)))) ?_
              refine QW.seq ?_
              refine sRb ?_
              refine xm 51 (pB (decide ((192 : Int) ≤ ((idx s1 (0 : Int)).toNat : Int)))) ?_
              refine xs 52 rfl (sf_not rfl rfl ?_)
              refine XK.nz ?_
              refine QW.cond (t := (!(decide ((192 : Int) ≤ ((idx s1 (0 : Int)).toNat : Int))))) rfl bL (fun hb_32 => ?_) (fun hb_32 => ?_)
              · replace h := bGT h hb_32
                refine sRb ?_
                refine xm 53 (pI (v_23.1)) ?_
                refine xs 54 rfl (sf_ne (a := (v_23.1)) (b := (1 : Int)) rfl rfl rfl ?_)
                refine xm 55 (pB (!decide ((v_23.1) = (1 : Int)))) ?_
                refine xg 56 (pS (sub s1 (v_23.2) ((v_23.2) + (v_23.1)))) rfl rfl (fun hg => sf_move (v := pS (sub s1 (v_23.2) ((v_23.2) + (v_23.1)))) rfl rfl g3) ?_
                obtain ⟨c_33, h⟩ := gG h
                refine xg 57 (.d (.val (.int .u8 ((idx (sub s1 (v_23.2) ((v_23.2) + (v_23.1))) (0 : Int)).toNat : Int)))) rfl rfl (fun hg => sf_idxS (l := (sub s1 (v_23.2) ((v_23.2) + (v_23.1)))) (i := (0 : Int)) rfl TT.under_9 TT.arrA_9 rfl rfl (c_33 (eqB hg)) g3) ?_
                refine xg 58 (pB (decide ((128 : Int) ≤ ((idx (sub s1 (v_23.2) ((v_23.2) + (v_23.1))) (0 : Int)).toNat : Int)))) rfl rfl (fun hg => sf_geq (a := ((idx (sub s1 (v_23.2) ((v_23.2) + (v_23.1))) (0 : Int)).toNat : Int)) (b := (128 : Int)) rfl rfl rfl g3) ?_
                refine xs 59 rfl (sf_pickO rfl rfl rfl rfl (fun _ => rfl) (fun hb => by rw [hb]; rfl) ?_)
                obtain ⟨v_38 | e_37, hx_35, h⟩ := bG h
                · refine XK.fr (p := .tuple []) (H2 := _) (nx2 := 2) (some 60) rfl rfl (xcall_frame [] rfl rfl TT.enters_166 (sim_rlp_must ((!decide ((v_23.1) = (1 : Int))) || (decide ((128 : Int) ≤ ((idx (sub s1 (v_23.2) ((v_23.2) + (v_23.1))) (0 : Int)).toNat : Int)))) (6) _ hx_35) rfl rfl (by decide) trivial bL) rfl rfl rfl ?_
                  refine XK.nz ?_
                  refine sRb ?_
                  refine xm 61 (pS (sub s1 (v_23.2) ((v_23.2) + (v_23.1)))) ?_
                  obtain ⟨x_39, hx_40, h⟩ := bG h
                  refine xs 62 rfl (sf_call rfl rfl TT.enters_97 rfl (sim_rlp_Text (sub s1 (v_23.2) ((v_23.2) + (v_23.1))) _ hx_40) ?_)
                  refine xm 63 (pI (v_23.2)) ?_
                  refine xm 64 (pI (v_23.1)) ?_
                  obtain ⟨c_41, h⟩ := gG h
                  refine xs 65 rfl (sf_add (a := (v_23.2)) (b := (v_23.1)) rfl rfl rfl c_41 ?_)
                  refine XK.st none rfl rfl (sf_stV (l' := [pB (x_39.fList), pS (x_39.fS), .d (.slice ((x_39.fL).map eItem))]) rfl TT.tyA_125 rfl rfl rfl rfl rfl rfl (by simp) rfl ?_)
                  refine xz 7 (pI ((v_23.2) + (v_23.1))) ?_
                  refine QW.ret bL (thR ?_)
                  obtain rfl := sG h
                  exact EndsS.more (s' := ⟨tab [(6, .vptr 1 0), (7, pI ((v_23.2) + (v_23.1)))], tabH [.var [pI (c_3.fn)], .var [pB (x_39.fList), pS (x_39.fS), .d (.slice ((x_39.fL).map eItem))]], 2, []⟩) (ps := [.agg [pB (x_39.fList), pS (x_39.fS), .d (.slice ((x_39.fL).map eItem))], pI ((v_23.2) + (v_23.1))]) (.inr rfl) (View.mk 2 [0, 1] _ _ _ rfl rfl (by decide) (iC (iC trivial)) (And.intro rfl (And.intro rfl trivial)) rfl bL rfl) rfl bL (fun i hi => tabH_app [.var [pI (c_3.fn)]] [.var [pB (x_39.fList), pS (x_39.fS), .d (.slice ((x_39.fL).map eItem))]] i hi) rfl (by simp [HO.idsLts, HO.idsLt, PV.idsLts, PV.idsLt, idsLts_d, rowC]) (And.intro (ResIs.cell rfl rfl TT.tyA_125 ⟨⟨by simp, by simp⟩, rfl⟩) (And.intro (ResIs.tmp rfl) trivial)) (by simp [PV.idsLts, PV.idsLt, idsLts_d])
                · refine XK.fp (p := .d (.iface 193 (.agg [.val (.int .i64 e_37)]))) (H2 := _) (nx2 := 2) rfl (xcall_frame [] rfl rfl TT.enters_166 (sim_rlp_must ((!decide ((v_23.1) = (1 : Int))) || (decide ((128 : Int) ≤ ((idx (sub s1 (v_23.2) ((v_23.2) + (v_23.1))) (0 : Int)).toNat : Int)))) (6) _ hx_35) rfl rfl (by decide) trivial bL) rfl rfl rfl (thP (thP ?_))
                  obtain rfl := sG h
                  exact EndsS.pan (s' := ⟨tab [], tabH [.var [pI (c_3.fn)]], 1, []⟩) (View.mk 1 [0] _ _ _ rfl rfl (by decide) trivial (And.intro rfl trivial) rfl bL rfl) rfl bL (fun i hi => tabH_app [.var [pI (c_3.fn)]] [] i hi) rfl (by simp [HO.idsLts, HO.idsLt, PV.idsLts, PV.idsLt, idsLts_d, rowC])
              · replace h := bGF h hb_32
                refine QW.skip bL (nrm ?_)
                refine sRb ?_
                refine xs 66 rfl (sf_bld (v := .agg [pB true, pS ([] : List UInt8), .full (([] : (List Item)).map eItem)]) rfl TT.bldA_125 (build_of rfl (fill_step (cells' := [pB true, pS ([] : List UInt8), .full (([] : (List Item)).map eItem)]) rfl rfl rfl bL rfl fill_nil)) ?_)
                refine xs 13 rfl (sf_alloc (l := [pB false, pS ([] : List UInt8), .full (([] : (List Item)).map eItem)]) rfl TT.zeroA_125 rfl rfl ?_)
                refine XK.st none rfl rfl (sf_stV (l' := [pB true, pS ([] : List UInt8), .full (([] : (List Item)).map eItem)]) rfl TT.tyA_125 rfl rfl rfl rfl rfl rfl (by simp) rfl ?_)
                refine XK.nz ?_
                refine QW.seq ?_
                refine QW.block ?_
                refine QW.loop (fun k σ => ∃ v10_2 : Int, ∃ v11_2 : Int, ∃ v12_2 : (List UInt8), ∃ c0_0_2 : Int, ∃ v13_2 : (List Item), k ≤ k_0 ∧ run (step_rlp_counter_get self s1 depth2 c0) k (.L2 v10_2 v11_2 v12_2 c0_0_2 v13_2) = some r ∧ σ = ⟨tab [(0, .vptr 0 0), (2, pI depth2), (6, .vptr 1 0), (10, pI v10_2), (11, pI v11_2), (12, pS v12_2), (13, .vptr 2 0)], tabH [.var [pI c0_0_2], .var [pB false, pS ([] : List UInt8), .full (([] : (List Item)).map eItem)], .var [pB true, pS ([] : List UInt8), .own 3 (v13_2.map eItem)], .spare 3 v13_2.length], 4, []⟩) k_0 bL ⟨⟨tab [(0, .vptr 0 0), (2, pI depth2), (6, .vptr 1 0), (10, pI (v_23.1)), (11, pI (v_23.2)), (12, pS (sub s1 (v_23.2) ((v_23.2) + (v_23.1)))), (13, .vptr 2 0)], tabH [.var [pI (c_3.fn)], .var [pB false, pS ([] : List UInt8), .full (([] : (List Item)).map eItem)], .var [pB true, pS ([] : List UInt8), .own 3 (([] : (List Item)).map eItem)], .spare 3 ([] : (List Item)).length], 4, []⟩, View.trans (View.bufV 2 2 3 rfl rfl bL) (View.mk 4 [0, 1, 2, 3] _ _ _ rfl rfl (by decide) (iC (iC (iC (iC (iC (iC (iC trivial))))))) (And.intro rfl (And.intro rfl (And.intro rfl (And.intro rfl trivial)))) rfl bL rfl), v_23.1, v_23.2, (sub s1 (v_23.2) ((v_23.2) + (v_23.1))), c_3.fn, ([] : (List Item)), Nat.le_refl _, jG h, rfl⟩ ?_
                rintro k_42s _ ⟨v10_2, v11_2, v12_2, c0_0_2, v13_2, k_42h, h, rfl⟩
                obtain ⟨k_42, rfl, h9⟩ := run_succ h; replace h := h9; clear h9; rw [step_rlp_counter_get] at h
                refine QW.seq ?_
                refine sRb ?_
                refine xm 67 (pS v12_2) ?_
                refine xs 68 rfl (sf_sne (a := v12_2) (b := ([] : List UInt8)) rfl rfl rfl ?_)
                refine XK.nz ?_
                refine QW.cond (t := (!(v12_2 == ([] : List UInt8)))) rfl bL (fun hb_43 => ?_) (fun hb_43 => ?_)
                · replace h := bGT h hb_43
                  refine QW.skip bL (nrm ?_)
                  refine QW.block ?_
                  refine sRb ?_
                  refine xm 70 (.vptr 0 0) ?_
                  refine xm 71 (pS v12_2) ?_
                  refine xm 72 (pI depth2) ?_
                  obtain ⟨c_44, h⟩ := gG h
                  refine xs 73 rfl (sf_add (a := depth2) (b := (1 : Int)) rfl rfl rfl c_44 ?_)
                  obtain ⟨⟨v_50 | e_49, c_47⟩, hx_46, h⟩ := bG h
                  · refine XK.fr (p := .tuple [.agg [pB ((v_50.1).fList), pS ((v_50.1).fS), .d (.slice (((v_50.1).fL).map eItem))], pI (v_50.2)]) (H2 := putH _ 0 (some (.var [pI (c_47.fn)]))) (nx2 := 4) (some 74) rfl rfl (xcall_frame [0] rfl rfl TT.enters_169 (hself v12_2 (depth2 + (1 : Int)) (⟨c0_0_2⟩ : counter) _ hx_46) rfl rfl (by decide) (And.intro rfl trivial) bL) rfl rfl rfl ?_
                    refine xm 69 (.tuple [.agg [pB ((v_50.1).fList), pS ((v_50.1).fS), .d (.slice (((v_50.1).fL).map eItem))], pI (v_50.2)]) ?_
                    refine xs 75 rfl (sf_extractP rfl rfl rfl ?_)
                    refine xs 76 rfl (sf_extractP rfl rfl rfl ?_)
                    refine xs 14 rfl (sf_alloc (l := [pB false, pS ([] : List UInt8), .full (([] : (List Item)).map eItem)]) rfl TT.zeroA_125 rfl rfl ?_)
                    refine XK.st none rfl rfl (sf_stV (l' := [pB ((v_50.1).fList), pS ((v_50.1).fS), .d (.slice (((v_50.1).fL).map eItem))]) rfl TT.tyA_125 rfl rfl rfl rfl rfl rfl (by simp) rfl ?_)
                    refine xz 15 (pI (v_50.2)) ?_
                    refine sRb ?_
                    refine xs 77 rfl (sf_fldV rfl TT.fldA_125_2 (by decide) rfl ?_)
                    refine xs 78 rfl (sf_ldV (v := .own 3 (v13_2.map eItem)) rfl TT.tyA_123 rfl rfl ⟨⟨by simp, by simp⟩, rfl⟩ ?_)
                    refine XK.as (some 79) rfl rfl (sf_ldV (v := .agg [pB ((v_50.1).fList), pS ((v_50.1).fS), .d (.slice (((v_50.1).fL).map eItem))]) rfl TT.tyA_125 rfl rfl ⟨⟨by simp, by simp⟩, rfl⟩ ⟨.d (.agg (cItem (v_50.1))), (Imp.toD rfl), ?_⟩)
                    refine xs 80 rfl (sf_row (en := eItem) (l := ([v_50.1] : List Item)) rfl TT.rowA_123 lay_Item (by first | rfl | (simp only [List.map_cons, List.map_nil, eItem_eq]; rfl)) rfl (by decide) (by simp [solids, partsP, evP, ofVal, PV.solid, putS_at, tab, unS, unT, unC, asCond, Value.oneCell']) ?_)
                    obtain ⟨c_51, h⟩ := gG h
                    refine xs 81 rfl (sf_appO (en := eItem) (l := v13_2) (l2 := ([v_50.1] : List Item)) rfl TT.rowA_123 TT.under_123 rfl lay_Item rfl rfl rfl c_51 (by decide) ?_)
                    refine xs 82 rfl (sf_fldV rfl TT.fldA_125_2 (by decide) rfl ?_)
                    refine XK.st none rfl rfl (sf_stV (l' := [pB true, pS ([] : List UInt8), .own 5 ((v13_2 ++ ([v_50.1] : List Item)).map eItem)]) rfl TT.tyA_123 rfl rfl rfl rfl rfl rfl (by simp) rfl ?_)
                    refine XK.nz ?_
                    refine QW.view (s' := ⟨tab [(0, .vptr 0 0), (2, pI depth2), (6, .vptr 1 0), (10, pI v10_2), (11, pI v11_2), (12, pS v12_2), (13, .vptr 2 0), (15, pI (v_50.2))], tabH [.var [pI (c_47.fn)], .var [pB false, pS ([] : List UInt8), .full (([] : (List Item)).map eItem)], .var [pB true, pS ([] : List UInt8), .own 3 ((v13_2 ++ ([v_50.1] : List Item)).map eItem)], .spare 3 (v13_2 ++ ([v_50.1] : List Item)).length], 4, []⟩) (View.mk 4 [0, 1, 2, 5] _ _ _ rfl rfl (by decide) (iC (iC (iC (iC (iC (iC (iC (iC trivial)))))))) (And.intro rfl (And.intro rfl (And.intro rfl (And.intro rfl trivial)))) rfl bL rfl) bL ?_
                    refine rGb ?_
                    refine xm 83 (pS v12_2) ?_
                    refine xm 84 (pI (v_50.2)) ?_
                    obtain ⟨c_52, h⟩ := gG h
                    refine xs 85 rfl (sf_subS (l := v12_2) (a := (v_50.2)) (b := (v12_2.length : Int)) rfl TT.under_9 rfl rfl rfl c_52 ?_)
                    refine xa 12 (pS (sub v12_2 (v_50.2) (v12_2.length : Int))) ?_
                    refine XK.nil (blN (nrm ?_))
                    exact ⟨k_42, by omega, ⟨tab [(0, .vptr 0 0), (2, pI depth2), (6, .vptr 1 0), (10, pI v10_2), (11, pI v11_2), (12, pS (sub v12_2 (v_50.2) (v12_2.length : Int))), (13, .vptr 2 0)], tabH [.var [pI (c_47.fn)], .var [pB false, pS ([] : List UInt8), .full (([] : (List Item)).map eItem)], .var [pB true, pS ([] : List UInt8), .own 3 ((v13_2 ++ ([v_50.1] : List Item)).map eItem)], .spare 3 (v13_2 ++ ([v_50.1] : List Item)).length], 4, []⟩, View.mk 4 [0, 1, 2, 3] _ _ _ rfl rfl (by decide) (iC (iC (iC (iC (iC (iC (iC trivial))))))) (And.intro rfl (And.intro rfl (And.intro rfl (And.intro rfl trivial)))) rfl bL rfl, v10_2, v11_2, (sub v12_2 (v_50.2) (v12_2.length : Int)), c_47.fn, (v13_2 ++ ([v_50.1] : List Item)), by omega, jG h, rfl⟩
                  · refine XK.fp (p := .d (.iface 193 (.agg [.val (.int .i64 e_49)]))) (H2 := putH _ 0 (some (.var [pI (c_47.fn)]))) (nx2 := 4) rfl (xcall_frame [0] rfl rfl TT.enters_169 (hself v12_2 (depth2 + (1 : Int)) (⟨c0_0_2⟩ : counter) _ hx_46) rfl rfl (by decide) (And.intro rfl trivial) bL) rfl rfl rfl (thP (blP (thP (blP (thP ?_)))))
                    obtain rfl := sG h
                    exact EndsS.pan (s' := ⟨tab [], tabH [.var [pI (c_47.fn)]], 1, []⟩) (View.mk 1 [0] _ _ _ rfl rfl (by decide) trivial (And.intro rfl trivial) rfl bL rfl) rfl bL (fun i hi => tabH_app [.var [pI (c_47.fn)]] [] i hi) rfl (by simp [HO.idsLts, HO.idsLt, PV.idsLts, PV.idsLt, idsLts_d, rowC])
                · replace h := bGF h hb_43
                  refine QW.exit bL (thX (thX (exE (nrm ?_))))
                  refine sRb ?_
                  refine xs 86 rfl (sf_ldV (v := .agg [pB true, pS ([] : List UInt8), .own 3 (v13_2.map eItem)]) rfl TT.tyA_125 rfl rfl ⟨⟨by simp, by simp⟩, rfl⟩ ?_)
                  refine xm 87 (pI v11_2) ?_
                  refine xm 88 (pI v10_2) ?_
                  obtain ⟨c_53, h⟩ := gG h
                  refine xs 89 rfl (sf_add (a := v11_2) (b := v10_2) rfl rfl rfl c_53 ?_)
                  refine XK.st none rfl rfl (sf_stV (l' := [pB true, pS ([] : List UInt8), .own 3 (v13_2.map eItem)]) rfl TT.tyA_125 rfl rfl rfl rfl rfl rfl (by simp) rfl ?_)
                  refine xz 7 (pI (v11_2 + v10_2)) ?_
                  refine QW.ret bL ?_
                  obtain rfl := sG h
                  exact EndsS.more (s' := ⟨tab [(6, .vptr 1 0), (7, pI (v11_2 + v10_2))], tabH [.var [pI c0_0_2], .var [pB true, pS ([] : List UInt8), .d (.slice (v13_2.map eItem))]], 2, []⟩) (ps := [.agg [pB true, pS ([] : List UInt8), .d (.slice (v13_2.map eItem))], pI (v11_2 + v10_2)]) (.inr rfl) (View.trans (View.castV 1 2 rfl rfl rfl bL) (View.mk 2 [0, 1] _ _ _ rfl rfl (by decide) (iC (iC trivial)) (And.intro rfl (And.intro rfl trivial)) rfl bL rfl)) rfl bL (fun i hi => tabH_app [.var [pI c0_0_2]] [.var [pB true, pS ([] : List UInt8), .d (.slice (v13_2.map eItem))]] i hi) rfl (by simp [HO.idsLts, HO.idsLt, PV.idsLts, PV.idsLt, idsLts_d, rowC]) (And.intro (ResIs.cell rfl rfl TT.tyA_125 ⟨⟨by simp, by simp⟩, rfl⟩) (And.intro (ResIs.tmp rfl) trivial)) (by simp [PV.idsLts, PV.idsLt, idsLts_d])
            · refine XK.fp (p := .d (.iface 193 (.agg [.val (.int .i64 e_28)]))) (H2 := _) (nx2 := 2) rfl (xcall_frame [] rfl rfl TT.enters_166 (sim_rlp_must (decide ((v_23.1) ≤ ((s1.length : Int) - (v_23.2)))) (5) _ hx_26) rfl rfl (by decide) trivial bL) rfl rfl rfl (thP ?_)
              obtain rfl := sG h
              exact EndsS.pan (s' := ⟨tab [], tabH [.var [pI (c_3.fn)]], 1, []⟩) (View.mk 1 [0] _ _ _ rfl rfl (by decide) trivial (And.intro rfl trivial) rfl bL rfl) rfl bL (fun i hi => tabH_app [.var [pI (c_3.fn)]] [] i hi) rfl (by simp [HO.idsLts, HO.idsLt, PV.idsLts, PV.idsLt, idsLts_d, rowC])
          · refine XK.fp (p := .d (.iface 193 (.agg [.val (.int .i64 e_22)]))) (H2 := _) (nx2 := 2) rfl (xcall_frame [] rfl rfl TT.enters_175 (sim_rlp_length s1 v9 _ hx_20) rfl rfl (by decide) trivial bL) rfl rfl rfl (thP ?_)
            obtain rfl := sG h
            exact EndsS.pan (s' := ⟨tab [], tabH [.var [pI (c_3.fn)]], 1, []⟩) (View.mk 1 [0] _ _ _ rfl rfl (by decide) trivial (And.intro rfl trivial) rfl bL rfl) rfl bL (fun i hi => tabH_app [.var [pI (c_3.fn)]] [] i hi) rfl (by simp [HO.idsLts, HO.idsLt, PV.idsLts, PV.idsLt, idsLts_d, rowC])
    · refine XK.fp (p := .d (.iface 193 (.agg [.val (.int .i64 e_10)]))) (H2 := _) (nx2 := 2) rfl (xcall_frame [] rfl rfl TT.enters_166 (sim_rlp_must (!(s1 == ([] : List UInt8))) (5) _ hx_8) rfl rfl (by decide) trivial bL) rfl rfl rfl (thP ?_)
      obtain rfl := sG h
      exact EndsS.pan (s' := ⟨tab [], tabH [.var [pI (c_3.fn)]], 1, []⟩) (View.mk 1 [0] _ _ _ rfl rfl (by decide) trivial (And.intro rfl trivial) rfl bL rfl) rfl bL (fun i hi => tabH_app [.var [pI (c_3.fn)]] [] i hi) rfl (by simp [HO.idsLts, HO.idsLt, PV.idsLts, PV.idsLt, idsLts_d, rowC])
  · refine XK.fp (p := .d (.iface 193 (.agg [.val (.int .i64 e_5)]))) (H2 := putH _ 0 (some (.var [pI (c_3.fn)]))) (nx2 := 2) rfl (xcall_frame [0] rfl rfl TT.enters_165 (sim_rlp_counter_one depth2 c0 _ hx_2) rfl rfl (by decide) (And.intro rfl trivial) bL) rfl rfl rfl (thP ?_)
    obtain rfl := sG h
    exact EndsS.pan (s' := ⟨tab [], tabH [.var [pI (c_3.fn)]], 1, []⟩) (View.mk 1 [0] _ _ _ rfl rfl (by decide) trivial (And.intro rfl trivial) rfl bL rfl) rfl bL (fun i hi => tabH_app [.var [pI (c_3.fn)]] [] i hi) rfl (by simp [HO.idsLts, HO.idsLt, PV.idsLts, PV.idsLt, idsLts_d, rowC])
noncomputable def rec_rlp_counter_get : Nat → (List UInt8) → Int → counter → Option (((Item × Int) ⊕ Int) × counter)
  | 0 => fun _ _ _ => none
  | n + 1 => fun y0 y1 y2 => gs_rlp_counter_get (rec_rlp_counter_get n) y0 y1 y2
theorem simr_rlp_counter_get : ∀ (n : Nat) (y0 : (List UInt8)) (y1 : Int) (y2 : counter) (rr : (((Item × Int) ⊕ Int) × counter)), rec_rlp_counter_get n y0 y1 y2 = some rr → Spec Try.prog 169 [.vptr 0 0, pS y0, pI y1] (tabH [.var [pI (y2.fn)]]) 1 (postX (match rr.1 with | .inl x => Out.ret (.tuple [.agg [pB ((x.1).fList), pS ((x.1).fS), .d (.slice (((x.1).fL).map eItem))], pI (x.2)]) | .inr e => Out.pan (.d (.iface 193 (.agg [.val (.int .i64 e)])))) (tabH [.var [pI ((rr.2).fn)]]) 1)
  | 0, _, _, _, _, h => by cases h
  | n + 1, y0, y1, y2, rr, h => sims_rlp_counter_get (rec_rlp_counter_get n) (simr_rlp_counter_get n) y0 y1 y2 rr h
noncomputable def g_rlp_counter_get (y0 : (List UInt8)) (y1 : Int) (y2 : counter) : Option (((Item × Int) ⊕ Int) × counter) := theR (fun n => rec_rlp_counter_get n y0 y1 y2)
theorem sim_rlp_counter_get (y0 : (List UInt8)) (y1 : Int) (y2 : counter) (rr : (((Item × Int) ⊕ Int) × counter)) (h : g_rlp_counter_get y0 y1 y2 = some rr) : Spec Try.prog 169 [.vptr 0 0, pS y0, pI y1] (tabH [.var [pI (y2.fn)]]) 1 (postX (match rr.1 with | .inl x => Out.ret (.tuple [.agg [pB ((x.1).fList), pS ((x.1).fS), .d (.slice (((x.1).fL).map eItem))], pI (x.2)]) | .inr e => Out.pan (.d (.iface 193 (.agg [.val (.int .i64 e)])))) (tabH [.var [pI ((rr.2).fn)]]) 1) := by
  obtain ⟨n, hn⟩ := theR_get h
  exact simr_rlp_counter_get n y0 y1 y2 rr hn
noncomputable def g_rlp_Get (s0 : (List UInt8)) : Option (Item × Int × Int) :=
    ((g_rlp_counter_get s0 (0) (⟨0⟩ : counter)).bind fun xx => match xx with
    | (.inl v_6, c_3) =>
        some (v_6.1, v_6.2, 0)
    | (.inr e_5, c_3) =>
        some ((⟨false, ([] : List UInt8), ([] : (List Item))⟩ : Item), 0, e_5))
theorem sim_rlp_Get (s0 : (List UInt8)) (r : (Item × Int × Int)) (h : g_rlp_Get s0 = some r) : Fun Try.prog 149 [.val (sV s0)] (.tuple [.agg (cItem (r.1)), .val (.int .i64 (r.2.1)), .val (.int .i64 (r.2.2))]) := by
  refine Fun.of_bodyD Try.func149 rfl (by simp [Try.ntmps149]) TT.enters_145 ?_
  rw [Try.ntmps149, TT.res_149]
  refine QW.view (s' := ⟨tab [(0, pS s0)], tabH [], 0, []⟩) (View.init (by rfl)) zL ?_
  unfold g_rlp_Get at h
  refine sR ?_
  refine xs 2 rfl (sf_alloc (l := [pB false, pS ([] : List UInt8), .full (([] : (List Item)).map eItem)]) rfl TT.zeroA_125 rfl rfl ?_)
  refine xa 3 (pI (0)) ?_
  refine xs 4 rfl (sf_alloc (l := [pI (0)]) rfl TT.zeroA_25 rfl rfl ?_)
  refine XK.nz ?_
  refine sR ?_
  refine XK.df (L := [.vptr 1 0]) none rfl rfl rfl rfl rfl ?_
  refine XK.nz ?_
  refine sR ?_
  refine xs 6 rfl (sf_alloc (l := [pI (0)]) rfl TT.zeroA_173 rfl rfl ?_)
  refine xm 7 (pS s0) ?_
  obtain ⟨⟨v_6 | e_5, c_3⟩, hx_2, h⟩ := bO h
  · refine XK.fr (p := .tuple [.agg [pB ((v_6.1).fList), pS ((v_6.1).fS), .d (.slice (((v_6.1).fL).map eItem))], pI (v_6.2)]) (H2 := putH _ 2 (some (.var [pI (c_3.fn)]))) (nx2 := 3) (some 8) rfl rfl (xcall_frame [2] rfl rfl TT.enters_169 (sim_rlp_counter_get s0 (0) (⟨0⟩ : counter) _ hx_2) rfl rfl (by decide) (And.intro rfl trivial) bL) rfl rfl rfl ?_
    refine xm 5 (.tuple [.agg [pB ((v_6.1).fList), pS ((v_6.1).fS), .d (.slice (((v_6.1).fL).map eItem))], pI (v_6.2)]) ?_
    refine xs 9 rfl (sf_extractP rfl rfl rfl ?_)
    refine xs 10 rfl (sf_extractP rfl rfl rfl ?_)
    refine XK.st none rfl rfl (sf_stV (l' := [pB ((v_6.1).fList), pS ((v_6.1).fS), .d (.slice (((v_6.1).fL).map eItem))]) rfl TT.tyA_125 rfl rfl rfl rfl rfl rfl (by simp) rfl ?_)
    refine xz 3 (pI (v_6.2)) ?_
    refine sR ?_
    refine XK.as (some 11) rfl rfl (sf_ldV (v := .agg [pB ((v_6.1).fList), pS ((v_6.1).fS), .d (.slice (((v_6.1).fL).map eItem))]) rfl TT.tyA_125 rfl rfl ⟨⟨by simp, by simp⟩, rfl⟩ ⟨.d (.agg (cItem (v_6.1))), (Imp.toD rfl), ?_⟩)
    refine xm 12 (pI (v_6.2)) ?_
    refine XK.st none rfl rfl (sf_stV (l' := [pB ((v_6.1).fList), pS ((v_6.1).fS), .d (.slice (((v_6.1).fL).map eItem))]) rfl TT.tyA_125 rfl rfl rfl rfl rfl rfl (by simp) rfl ?_)
    refine xa 3 (pI (v_6.2)) ?_
    refine XK.st none rfl rfl (sf_stV (l' := [pI (0)]) rfl TT.tyA_25 rfl rfl rfl rfl rfl rfl (by simp) rfl ?_)
    refine XK.nz ?_
    refine QW.ret zL ?_
    obtain rfl := sO h
    exact EndsD.more [.agg [pB ((v_6.1).fList), pS ((v_6.1).fS), .d (.slice (((v_6.1).fL).map eItem))], pI (v_6.2), pI (0)] 1 (pI (0)) (pI (0)) none rfl rfl (caught_none_rlp_caught 0) rfl rfl rfl (And.intro (ResIs.cell rfl rfl TT.tyA_125 ⟨⟨by simp, by simp⟩, rfl⟩) (And.intro (ResIs.tmp rfl) (And.intro (ResIs.cell rfl rfl TT.tyA_25 ⟨⟨by simp, by simp⟩, rfl⟩) trivial))) rfl
  · refine XK.fp (p := .d (.iface 193 (.agg [.val (.int .i64 e_5)]))) (H2 := putH _ 2 (some (.var [pI (c_3.fn)]))) (nx2 := 3) rfl (xcall_frame [2] rfl rfl TT.enters_169 (sim_rlp_counter_get s0 (0) (⟨0⟩ : counter) _ hx_2) rfl rfl (by decide) (And.intro rfl trivial) bL) rfl rfl rfl (thP ?_)
    obtain rfl := sO h
    exact EndsD.more [.agg [pB false, pS ([] : List UInt8), .full (([] : (List Item)).map eItem)], pI (0), pI e_5] 1 (pI (0)) (pI e_5) (some (.iface 193 (.agg [.val (.int .i64 e_5)]))) rfl rfl (caught_some_rlp_caught 0 e_5) rfl rfl (⟨_, rfl, rfl⟩) (And.intro (ResIs.cell rfl rfl TT.tyA_125 ⟨⟨by simp, by simp⟩, rfl⟩) (And.intro (ResIs.tmp rfl) (And.intro (ResIs.cell rfl rfl TT.tyA_25 ⟨⟨by simp, by simp⟩, rfl⟩) trivial))) rfl
noncomputable def g_rlp_Whole (s0 : (List UInt8)) : Option (Item × Int) :=
    ((g_rlp_Get s0).bind fun (x_1 : (Item × Int × Int)) =>
    (bif (!decide ((x_1.2.2) = (0 : Int))) then
    some ((⟨false, ([] : List UInt8), ([] : (List Item))⟩ : Item), x_1.2.2)
    else
    (bif (!decide ((x_1.2.1) = (s0.length : Int))) then
    some ((⟨false, ([] : List UInt8), ([] : (List Item))⟩ : Item), 6)
    else
    some (x_1.1, 0))))
theorem sim_rlp_Whole (s0 : (List UInt8)) (r : (Item × Int)) (h : g_rlp_Whole s0 = some r) : Fun Try.prog 105 [.val (sV s0)] (.tuple [.agg (cItem (r.1)), .val (.int .i64 (r.2))]) := by
  refine Fun.of_bodyQ Try.func105 rfl (by simp [Try.ntmps105]) ?_
  rw [Try.ntmps105, TT.res_105]
  refine QW.view (s' := ⟨tab [(0, pS s0)], tabH [], 0, []⟩) (View.init (by rfl)) zL ?_
  unfold g_rlp_Whole at h
  refine sR ?_
  refine xs 2 rfl (sf_alloc (l := [pB false, pS ([] : List UInt8), .full (([] : (List Item)).map eItem)]) rfl TT.zeroA_125 rfl rfl ?_)
  refine xz 3 (pI (0)) ?_
  refine sR ?_
  refine xm 8 (pS s0) ?_
  obtain ⟨x_1, hx_2, h⟩ := bO h
  refine xs 9 rfl (sf_call rfl rfl TT.enters_149 rfl (sim_rlp_Get s0 _ hx_2) ?_)
  refine xm 7 (.d (.tuple [.agg (cItem (x_1.1)), .val (.int .i64 (x_1.2.1)), .val (.int .i64 (x_1.2.2))])) ?_
  refine xs 10 rfl (sf_extract rfl rfl rfl ?_)
  refine xs 11 rfl (sf_extract rfl rfl rfl ?_)
  refine xs 12 rfl (sf_extract rfl rfl rfl ?_)
  refine xs 4 rfl (sf_alloc (l := [pB false, pS ([] : List UInt8), .full (([] : (List Item)).map eItem)]) rfl TT.zeroA_125 rfl rfl ?_)
  refine XK.st none rfl rfl (sf_stV (l' := [pB ((x_1.1).fList), pS ((x_1.1).fS), .d (.slice (((x_1.1).fL).map eItem))]) rfl TT.tyA_125 rfl rfl rfl rfl rfl rfl (by simp) rfl ?_)
  refine xa 5 (pI (x_1.2.1)) ?_
  refine xz 6 (pI (x_1.2.2)) ?_
  refine QW.seq ?_
  refine QW.block ?_
  refine sR ?_
  refine xm 14 (pI (x_1.2.2)) ?_
  refine xs 15 rfl (sf_ne (a := (x_1.2.2)) (b := (0 : Int)) rfl rfl rfl ?_)
  refine xz 13 (pB (!decide ((x_1.2.2) = (0 : Int)))) ?_
  refine QW.cond (t := (!decide ((x_1.2.2) = (0 : Int)))) rfl zL (fun hb_3 => ?_) (fun hb_3 => ?_)
  · replace h := bT h hb_3
    refine sR ?_
    refine xs 16 rfl (sf_bld (v := .agg [pB false, pS ([] : List UInt8), .full (([] : (List Item)).map eItem)]) rfl TT.bldA_125 (build_of rfl fill_nil) ?_)
    refine xm 17 (pI (x_1.2.2)) ?_
    refine XK.st none rfl rfl (sf_stV (l' := [pB false, pS ([] : List UInt8), .full (([] : (List Item)).map eItem)]) rfl TT.tyA_125 rfl rfl rfl rfl rfl rfl (by simp) rfl ?_)
    refine xz 3 (pI (x_1.2.2)) ?_
    refine QW.ret zL (blR (thR ?_))
    obtain rfl := sO h
    exact Ends.more (.inr rfl) rfl (ps := [.agg [pB false, pS ([] : List UInt8), .full (([] : (List Item)).map eItem)], pI (x_1.2.2)]) (And.intro (ResIs.cell rfl rfl TT.tyA_125 ⟨⟨by simp, by simp⟩, rfl⟩) (And.intro (ResIs.tmp rfl) trivial)) rfl rfl
  · replace h := bF h hb_3
    refine sR ?_
    refine xm 19 (pI (x_1.2.1)) ?_
    refine xm 20 (pS s0) ?_
    refine xs 21 rfl (sf_lenS (l := s0) rfl TT.under_9 rfl ?_)
    refine xs 22 rfl (sf_ne (a := (x_1.2.1)) (b := (s0.length : Int)) rfl rfl rfl ?_)
    refine xz 18 (pB (!decide ((x_1.2.1) = (s0.length : Int)))) ?_
    refine QW.cond (t := (!decide ((x_1.2.1) = (s0.length : Int)))) rfl zL (fun hb_4 => ?_) (fun hb_4 => ?_)
    · replace h := bT h hb_4
      refine sR ?_
      refine xs 23 rfl (sf_bld (v := .agg [pB false, pS ([] : List UInt8), .full (([] : (List Item)).map eItem)]) rfl TT.bldA_125 (build_of rfl fill_nil) ?_)
      refine XK.st none rfl rfl (sf_stV (l' := [pB false, pS ([] : List UInt8), .full (([] : (List Item)).map eItem)]) rfl TT.tyA_125 rfl rfl rfl rfl rfl rfl (by simp) rfl ?_)
      refine xz 3 (pI (6)) ?_
      refine QW.ret zL (blR (thR ?_))
      obtain rfl := sO h
      exact Ends.more (.inr rfl) rfl (ps := [.agg [pB false, pS ([] : List UInt8), .full (([] : (List Item)).map eItem)], pI (6)]) (And.intro (ResIs.cell rfl rfl TT.tyA_125 ⟨⟨by simp, by simp⟩, rfl⟩) (And.intro (ResIs.tmp rfl) trivial)) rfl rfl
    · replace h := bF h hb_4
      refine QW.skip zL (blN (nrm ?_))
      refine sR ?_
      refine XK.as (some 24) rfl rfl (sf_ldV (v := .agg [pB ((x_1.1).fList), pS ((x_1.1).fS), .d (.slice (((x_1.1).fL).map eItem))]) rfl TT.tyA_125 rfl rfl ⟨⟨by simp, by simp⟩, rfl⟩ ⟨.d (.agg (cItem (x_1.1))), (Imp.toD rfl), ?_⟩)
      refine XK.st none rfl rfl (sf_stV (l' := [pB ((x_1.1).fList), pS ((x_1.1).fS), .d (.slice (((x_1.1).fL).map eItem))]) rfl TT.tyA_125 rfl rfl rfl rfl rfl rfl (by simp) rfl ?_)
      refine xz 3 (pI (0)) ?_
      refine QW.ret zL ?_
      obtain rfl := sO h
      exact Ends.more (.inr rfl) rfl (ps := [.agg [pB ((x_1.1).fList), pS ((x_1.1).fS), .d (.slice (((x_1.1).fL).map eItem))], pI (0)]) (And.intro (ResIs.cell rfl rfl TT.tyA_125 ⟨⟨by simp, by simp⟩, rfl⟩) (And.intro (ResIs.tmp rfl) trivial)) rfl rfl
noncomputable def g_nib_Unpack_1 (c0 : UInt8) (v1 : (List UInt8)) : Option (Unit × (List UInt8)) :=
    gO ((v1.length + ([(u8shr c0 (4 : Int)), (c0 &&& (15 : UInt8))] : List UInt8).length) * 1 ≤ 140737488355328) (
    some ((), (v1 ++ ([(u8shr c0 (4 : Int)), (c0 &&& (15 : UInt8))] : List UInt8))))
theorem sim_nib_Unpack_1 (c0 : UInt8) (v1 : (List UInt8)) (r : (Unit × (List UInt8))) (h : g_nib_Unpack_1 c0 v1 = some r) : Spec Try.prog 170 [.d (.val (.int .u8 (c0.toNat : Int))), .vptr 0 0] (tabH [.var [.own 1 (v1.map byteD)], .spare 1 v1.length]) 2 (postX (.ret (.tuple [])) (tabH [.var [.own 2 ((r.2).map byteD)], .dead, .spare 1 (r.2).length]) 3) := by
  refine Spec.of_bodyS Try.func170 rfl (by simp [Try.ntmps170]) bL ?_
  rw [Try.ntmps170, TT.res_170]
  refine QW.view (s' := ⟨tab [(0, .d (.val (.int .u8 (c0.toNat : Int)))), (1, .vptr 0 0)], tabH [.var [.own 1 (v1.map byteD)], .spare 1 v1.length], 2, []⟩) (View.initP bL (by rfl)) bL ?_
  unfold g_nib_Unpack_1 at h
  refine rGb ?_
  refine xs 3 rfl (sf_ldV (v := .own 1 (v1.map byteD)) rfl TT.tyA_49 rfl rfl ⟨⟨by simp, by simp⟩, rfl⟩ ?_)
  refine xm 4 (.d (.val (.int .u8 (c0.toNat : Int)))) ?_
  refine xs 5 rfl (sf_u8shr (p := c0) (c := (4 : Int)) rfl rfl rfl (by decide) ?_)
  refine xm 6 (.d (.val (.int .u8 (c0.toNat : Int)))) ?_
  refine xs 7 rfl (sf_u8and (p := c0) (q := (15 : UInt8)) rfl rfl rfl ?_)
  refine xs 8 rfl (sf_row (en := byteD) (l := ([(u8shr c0 (4 : Int)), (c0 &&& (15 : UInt8))] : List UInt8)) rfl TT.rowA_49 lay_byte rfl rfl (by decide) (by simp [solids, partsP, evP, ofVal, PV.solid, putS_at, tab, unS, unT, unC, asCond, Value.oneCell']) ?_)
  obtain ⟨c_1, h⟩ := gO_get h
  refine xs 9 rfl (sf_appO (en := byteD) (l := v1) (l2 := ([(u8shr c0 (4 : Int)), (c0 &&& (15 : UInt8))] : List UInt8)) rfl TT.rowA_49 TT.under_49 rfl lay_byte rfl rfl rfl c_1 (by decide) ?_)
  refine XK.st none rfl rfl (sf_stV (l' := [.own 2 ((v1 ++ ([(u8shr c0 (4 : Int)), (c0 &&& (15 : UInt8))] : List UInt8)).map byteD)]) rfl TT.tyA_49 rfl rfl rfl rfl rfl rfl (by simp) rfl ?_)
  refine XK.nil ?_
  obtain rfl := sO h
  exact EndsS.none (s' := ⟨tab [], tabH [.var [.own 2 ((v1 ++ ([(u8shr c0 (4 : Int)), (c0 &&& (15 : UInt8))] : List UInt8)).map byteD)], .dead, .spare 1 (v1 ++ ([(u8shr c0 (4 : Int)), (c0 &&& (15 : UInt8))] : List UInt8)).length], 3, []⟩) (.inl rfl) (View.mk 3 [0, 1, 2] _ _ _ rfl rfl (by decide) trivial (And.intro rfl (And.intro trivial (And.intro rfl trivial))) rfl bL rfl) rfl bL (fun i hi => tabH_app [.var [.own 2 ((v1 ++ ([(u8shr c0 (4 : Int)), (c0 &&& (15 : UInt8))] : List UInt8)).map byteD)], .dead, .spare 1 (v1 ++ ([(u8shr c0 (4 : Int)), (c0 &&& (15 : UInt8))] : List UInt8)).length] [] i hi) rfl (by simp [HO.idsLts, HO.idsLt, PV.idsLts, PV.idsLt, idsLts_d, rowC])
inductive C_nib_Unpack where
  | S
  | L1 (v16 : Int) (v5_0 : (List UInt8))
noncomputable def step_nib_Unpack (s0 : (List UInt8)) : C_nib_Unpack → Option (C_nib_Unpack ⊕ ((List UInt8) × Bool × Int))
  | .S =>
    (bif (s0 == ([] : List UInt8)) then
    some (.inr (([] : (List UInt8)), false, 5))
    else
    some (.inl (.L1 (0) ([] : (List UInt8)))))
  | .L1 v16 v5_0 =>
    (bif (decide (v16 < (minI (s0.length : Int) (64 : Int)))) then
    gO (0 ≤ v16 ∧ v16 < (s0.length : Int)) (
    ((g_nib_Unpack_1 (idx s0 v16) v5_0).bind fun (q_7 : (Unit × (List UInt8))) =>
    gO (inI (v16 + (1 : Int))) (
    some (.inl (.L1 (v16 + (1 : Int)) (q_7.2))))))
    else
    gO (0 ≤ (0 : Int) ∧ (0 : Int) < (v5_0.length : Int)) (
    gO (inI ((2 : Int) - (((idx v5_0 (0 : Int)) % (2 : UInt8)).toNat : Int))) (
    gO ((((decide ((3 : Int) < ((idx v5_0 (0 : Int)).toNat : Int))) == false) && ((decide ((((idx v5_0 (0 : Int)) % (2 : UInt8)).toNat : Int) = (0 : Int))) == true)) = true → 0 ≤ (1 : Int) ∧ (1 : Int) < (v5_0.length : Int)) (
    gO ((((decide ((3 : Int) < ((idx v5_0 (0 : Int)).toNat : Int))) || ((decide ((((idx v5_0 (0 : Int)) % (2 : UInt8)).toNat : Int) = (0 : Int))) && (!decide (((idx v5_0 (1 : Int)).toNat : Int) = (0 : Int))))) == false) = true → inI ((2 : Int) * (s0.length : Int))) (
    gO ((((decide ((3 : Int) < ((idx v5_0 (0 : Int)).toNat : Int))) || ((decide ((((idx v5_0 (0 : Int)) % (2 : UInt8)).toNat : Int) = (0 : Int))) && (!decide (((idx v5_0 (1 : Int)).toNat : Int) = (0 : Int))))) == false) = true → inI (((2 : Int) * (s0.length : Int)) - ((2 : Int) - (((idx v5_0 (0 : Int)) % (2 : UInt8)).toNat : Int)))) (
    (bif (((decide ((3 : Int) < ((idx v5_0 (0 : Int)).toNat : Int))) || ((decide ((((idx v5_0 (0 : Int)) % (2 : UInt8)).toNat : Int) = (0 : Int))) && (!decide (((idx v5_0 (1 : Int)).toNat : Int) = (0 : Int))))) || (decide ((64 : Int) < (((2 : Int) * (s0.length : Int)) - ((2 : Int) - (((idx v5_0 (0 : Int)) % (2 : UInt8)).toNat : Int)))))) then
    some (.inr (([] : (List UInt8)), false, 6))
    else
    gO (0 ≤ ((2 : Int) - (((idx v5_0 (0 : Int)) % (2 : UInt8)).toNat : Int)) ∧ ((2 : Int) - (((idx v5_0 (0 : Int)) % (2 : UInt8)).toNat : Int)) ≤ (v5_0.length : Int) ∧ (v5_0.length : Int) ≤ (v5_0.length : Int)) (
    some (.inr ((sub v5_0 ((2 : Int) - (((idx v5_0 (0 : Int)) % (2 : UInt8)).toNat : Int)) (v5_0.length : Int)), (decide ((2 : Int) ≤ ((idx v5_0 (0 : Int)).toNat : Int))), 0))))))))))
noncomputable def g_nib_Unpack (s0 : (List UInt8)) : Option ((List UInt8) × Bool × Int) := theC (step_nib_Unpack s0) .S
theorem sim_nib_Unpack (s0 : (List UInt8)) (r : ((List UInt8) × Bool × Int)) (h : g_nib_Unpack s0 = some r) : Fun Try.prog 150 [.val (sV s0)] (.tuple [.slice ((r.1).map byteD), .val (.bool (r.2.1)), .val (.int .i64 (r.2.2))]) := by
  refine Fun.of_bodyQ Try.func150 rfl (by simp [Try.ntmps150]) ?_
  rw [Try.ntmps150, TT.res_150]
  refine QW.view (s' := ⟨tab [(0, pS s0)], tabH [], 0, []⟩) (View.init (by rfl)) zL ?_
  replace h := theC_get h
  obtain ⟨_, h⟩ := h
  obtain ⟨k_0, rfl, h9⟩ := run_succ h; replace h := h9; clear h9; rw [step_nib_Unpack] at h
  refine sR ?_
  refine xa 2 (.full (([] : (List UInt8)).map byteD)) ?_
  refine xa 3 (pB false) ?_
  refine xz 4 (pI (0)) ?_
  refine QW.seq ?_
  refine sR ?_
  refine xm 10 (pS s0) ?_
  refine xs 11 rfl (sf_seq (a := s0) (b := ([] : List UInt8)) rfl rfl rfl ?_)
  refine XK.nz ?_
  refine QW.cond (t := (s0 == ([] : List UInt8))) rfl zL (fun hb_1 => ?_) (fun hb_1 => ?_)
  · replace h := bGT h hb_1
    refine sR ?_
    refine xa 2 (.full (([] : (List UInt8)).map byteD)) ?_
    refine xa 3 (pB false) ?_
    refine xz 4 (pI (5)) ?_
    refine QW.ret zL (thR ?_)
    obtain rfl := sG h
    exact Ends.more (.inr rfl) rfl (ps := [.full (([] : (List UInt8)).map byteD), pB false, pI (5)]) (And.intro (ResIs.tmp rfl) (And.intro (ResIs.tmp rfl) (And.intro (ResIs.tmp rfl) trivial))) rfl rfl
  · replace h := bGF h hb_1
    refine QW.skip zL (nrm ?_)
    refine sR ?_
    refine xs 5 rfl (sf_alloc (l := [.full (([] : (List UInt8)).map byteD)]) rfl TT.zeroA_49 rfl rfl ?_)
    refine XK.nz ?_
    refine QW.seq ?_
    refine QW.view (View.bufV 0 0 1 rfl rfl zL) zL ?_
    refine rG ?_
    refine xs 12 rfl (sf_func rfl rfl ?_)
    refine xz 6 (.clo 170 [.vptr 0 0]) ?_
    refine QW.seq ?_
    refine sR ?_
    refine xm 13 (pS s0) ?_
    refine xs 14 rfl (sf_lenS (l := s0) rfl TT.under_9 rfl ?_)
    refine xs 15 rfl (sf_min (a := (s0.length : Int)) (b := (64 : Int)) rfl rfl rfl ?_)
    refine xm 16 (pI (0)) ?_
    refine XK.nz ?_
    refine QW.block ?_
    refine QW.loop (fun k σ => ∃ v16 : Int, ∃ v5_0 : (List UInt8), k ≤ k_0 ∧ run (step_nib_Unpack s0) k (.L1 v16 v5_0) = some r ∧ σ = ⟨tab [(0, pS s0), (5, .vptr 0 0), (6, .clo 170 [.vptr 0 0]), (15, pI (minI (s0.length : Int) (64 : Int))), (16, pI v16)], tabH [.var [.own 1 (v5_0.map byteD)], .spare 1 v5_0.length], 2, []⟩) k_0 zL ⟨⟨tab [(0, pS s0), (5, .vptr 0 0), (6, .clo 170 [.vptr 0 0]), (15, pI (minI (s0.length : Int) (64 : Int))), (16, pI (0))], tabH [.var [.own 1 (([] : (List UInt8)).map byteD)], .spare 1 ([] : (List UInt8)).length], 2, []⟩, View.mk 2 [0, 1] _ _ _ rfl rfl (by decide) (iC (iC (iC (iC (iC trivial))))) (And.intro rfl (And.intro rfl trivial)) rfl zL rfl, 0, ([] : (List UInt8)), Nat.le_refl _, jG h, rfl⟩ ?_
    rintro k_2s _ ⟨v16, v5_0, k_2h, h, rfl⟩
    obtain ⟨k_2, rfl, h9⟩ := run_succ h; replace h := h9; clear h9; rw [step_nib_Unpack] at h
    refine sR ?_
    refine xs 17 rfl (sf_lss (a := v16) (b := (minI (s0.length : Int) (64 : Int))) rfl rfl rfl ?_)
    refine XK.nz ?_
    refine QW.seq ?_
    refine QW.cond (t := (decide (v16 < (minI (s0.length : Int) (64 : Int))))) rfl zL (fun hb_3 => ?_) (fun hb_3 => ?_)
    · replace h := bGT h hb_3
      refine QW.skip zL (nrm ?_)
      refine QW.seq ?_
      refine QW.block ?_
      refine sR ?_
      refine xm 18 (pI v16) ?_
      refine xz 7 (pI v16) ?_
      refine rG ?_
      refine xm 19 (.clo 170 [.vptr 0 0]) ?_
      refine xm 20 (pS s0) ?_
      refine xm 21 (pI v16) ?_
      obtain ⟨c_4, h⟩ := gG h
      refine xs 22 rfl (sf_idxS (l := s0) (i := v16) rfl TT.under_9 TT.arrA_9 rfl rfl c_4 ?_)
      obtain ⟨q_7, hx_6, h⟩ := bG h
      refine XK.fr (p := .tuple []) (H2 := putH (putH (putH _ 2 (some (.spare 1 (q_7.2).length))) 1 none) 0 (some (.var [.own 2 ((q_7.2).map byteD)]))) (nx2 := 3) (some 23) rfl rfl (xclo_frame [0, 1] rfl rfl rfl TT.enters_170 (sim_nib_Unpack_1 (idx s0 v16) v5_0 _ hx_6) rfl rfl (by decide) (And.intro rfl (And.intro rfl trivial)) bL) rfl rfl rfl ?_
      refine XK.nil (blN (nrm ?_))
      refine rG ?_
      obtain ⟨c_8, h⟩ := gG h
      refine xs 24 rfl (sf_add (a := v16) (b := (1 : Int)) rfl rfl rfl c_8 ?_)
      refine xm 16 (pI (v16 + (1 : Int))) ?_
      refine XK.nz ?_
      exact ⟨k_2, by omega, ⟨tab [(0, pS s0), (5, .vptr 0 0), (6, .clo 170 [.vptr 0 0]), (15, pI (minI (s0.length : Int) (64 : Int))), (16, pI (v16 + (1 : Int)))], tabH [.var [.own 1 ((q_7.2).map byteD)], .spare 1 (q_7.2).length], 2, []⟩, View.mk 2 [0, 2] _ _ _ rfl rfl (by decide) (iC (iC (iC (iC (iC trivial))))) (And.intro rfl (And.intro rfl trivial)) rfl zL rfl, (v16 + (1 : Int)), (q_7.2), by omega, jG h, rfl⟩
    · replace h := bGF h hb_3
      refine QW.exit zL (thX (thX (exE (nrm ?_))))
      refine sR ?_
      refine xs 25 rfl (sf_ldV (v := .own 1 (v5_0.map byteD)) rfl TT.tyA_49 rfl rfl ⟨⟨by simp, by simp⟩, rfl⟩ ?_)
      obtain ⟨c_9, h⟩ := gG h
      refine xs 26 rfl (sf_idxA (l := v5_0) (i := (0 : Int)) rfl TT.slcA_49 lay_byte rfl rfl c_9 ?_)
      refine xs 27 rfl (sf_ldC (d := .val (.int .u8 ((idx v5_0 (0 : Int)).toNat : Int))) rfl TT.tyA_5 rfl (LdC.one) ?_)
      refine xz 8 (.d (.val (.int .u8 ((idx v5_0 (0 : Int)).toNat : Int)))) ?_
      refine sR ?_
      refine xm 28 (.d (.val (.int .u8 ((idx v5_0 (0 : Int)).toNat : Int)))) ?_
      refine xs 29 rfl (sf_u8rem (p := (idx v5_0 (0 : Int))) (q := (2 : UInt8)) rfl rfl rfl (by decide) ?_)
      refine xs 30 rfl (sf_toI (n := (((idx v5_0 (0 : Int)) % (2 : UInt8)).toNat : Int)) rfl TT.under_5 TT.under_3 rfl (inI_u8 _) ?_)
      obtain ⟨c_10, h⟩ := gG h
      refine xs 31 rfl (sf_sub (a := (2 : Int)) (b := (((idx v5_0 (0 : Int)) % (2 : UInt8)).toNat : Int)) rfl rfl rfl c_10 ?_)
      refine xz 9 (pI ((2 : Int) - (((idx v5_0 (0 : Int)) % (2 : UInt8)).toNat : Int))) ?_
      refine QW.seq ?_
      refine sR ?_
      refine xm 32 (.d (.val (.int .u8 ((idx v5_0 (0 : Int)).toNat : Int)))) ?_
      refine xs 33 rfl (sf_gtr (a := ((idx v5_0 (0 : Int)).toNat : Int)) (b := (3 : Int)) rfl rfl rfl ?_)
      refine xm 34 (pB (decide ((3 : Int) < ((idx v5_0 (0 : Int)).toNat : Int)))) ?_
      refine xg 35 (.d (.val (.int .u8 ((idx v5_0 (0 : Int)).toNat : Int)))) rfl rfl (fun hg => sf_move (v := .d (.val (.int .u8 ((idx v5_0 (0 : Int)).toNat : Int)))) rfl rfl g3) ?_
      refine xg 36 (.d (.val (.int .u8 (((idx v5_0 (0 : Int)) % (2 : UInt8)).toNat : Int)))) rfl rfl (fun hg => sf_u8rem (p := (idx v5_0 (0 : Int))) (q := (2 : UInt8)) rfl rfl rfl (by decide) g3) ?_
      refine xg 37 (pB (decide ((((idx v5_0 (0 : Int)) % (2 : UInt8)).toNat : Int) = (0 : Int)))) rfl rfl (fun hg => sf_eq (a := (((idx v5_0 (0 : Int)) % (2 : UInt8)).toNat : Int)) (b := (0 : Int)) rfl rfl rfl g3) ?_
      refine xg 38 (pB (decide ((((idx v5_0 (0 : Int)) % (2 : UInt8)).toNat : Int) = (0 : Int)))) rfl rfl (fun hg => sf_move (v := pB (decide ((((idx v5_0 (0 : Int)) % (2 : UInt8)).toNat : Int) = (0 : Int)))) rfl rfl g3) ?_
      refine XK.gd (v := .own 1 (v5_0.map byteD)) (T := [0]) (some 39) rfl rfl (by repeat (first | exact trivial | refine ⟨fun q => by first | rfl | exact q | exact cda q | exact cdb q, ?_⟩)) (fun hg => sf_ldV (v := .own 1 (v5_0.map byteD)) rfl TT.tyA_49 rfl rfl ⟨⟨by simp, by simp⟩, rfl⟩ g3) (fun _ i hi => by simp only [List.mem_singleton] at hi; subst hi; decide) ?_
      obtain ⟨c_11, h⟩ := gG h
      refine xg 40 (.d (.cptr ([.val (.int .u8 ((idx v5_0 (1 : Int)).toNat : Int))]))) rfl rfl (fun hg => sf_idxA (l := v5_0) (i := (1 : Int)) rfl TT.slcA_49 lay_byte rfl rfl (c_11 hg) g3) ?_
      refine xg 41 (.d (.val (.int .u8 ((idx v5_0 (1 : Int)).toNat : Int)))) rfl rfl (fun hg => sf_ldC (d := .val (.int .u8 ((idx v5_0 (1 : Int)).toNat : Int))) rfl TT.tyA_5 rfl (LdC.one) g3) ?_
      refine xg 42 (pB (!decide (((idx v5_0 (1 : Int)).toNat : Int) = (0 : Int)))) rfl rfl (fun hg => sf_ne (a := ((idx v5_0 (1 : Int)).toNat : Int)) (b := (0 : Int)) rfl rfl rfl g3) ?_
      refine XK.gp (some 43) rfl rfl rfl rfl rfl rfl (fun h => h) (fun hg hb => by first | (rw [hg, hb]; rfl) | (simp only [hg, hb]; rfl) | simp_all) (fun _ _ => rfl) ((decide ((((idx v5_0 (0 : Int)) % (2 : UInt8)).toNat : Int) = (0 : Int))) && (!decide (((idx v5_0 (1 : Int)).toNat : Int) = (0 : Int)))) (bif_and _ _) ?_
      refine xs 44 rfl (sf_pickO rfl rfl rfl rfl (fun _ => rfl) (fun hb => by rw [hb]; rfl) ?_)
      refine xm 45 (pB ((decide ((3 : Int) < ((idx v5_0 (0 : Int)).toNat : Int))) || ((decide ((((idx v5_0 (0 : Int)) % (2 : UInt8)).toNat : Int) = (0 : Int))) && (!decide (((idx v5_0 (1 : Int)).toNat : Int) = (0 : Int)))))) ?_
      refine xg 46 (pS s0) rfl rfl (fun hg => sf_move (v := pS s0) rfl rfl g3) ?_
      refine xg 47 (pI (s0.length : Int)) rfl rfl (fun hg => sf_lenS (l := s0) rfl TT.under_9 rfl g3) ?_
      obtain ⟨c_12, h⟩ := gG h
      refine xg 48 (pI ((2 : Int) * (s0.length : Int))) rfl rfl (fun hg => sf_mul (a := (2 : Int)) (b := (s0.length : Int)) rfl rfl rfl (c_12 hg) g3) ?_
      refine xg 49 (pI ((2 : Int) - (((idx v5_0 (0 : Int)) % (2 : UInt8)).toNat : Int))) rfl rfl (fun hg => sf_move (v := pI ((2 : Int) - (((idx v5_0 (0 : Int)) % (2 : UInt8)).toNat : Int))) rfl rfl g3) ?_
      obtain ⟨c_13, h⟩ := gG h
      refine xg 50 (pI (((2 : Int) * (s0.length : Int)) - ((2 : Int) - (((idx v5_0 (0 : Int)) % (2 : UInt8)).toNat : Int)))) rfl rfl (fun hg => sf_sub (a := ((2 : Int) * (s0.length : Int))) (b := ((2 : Int) - (((idx v5_0 (0 : Int)) % (2 : UInt8)).toNat : Int))) rfl rfl rfl (c_13 hg) g3) ?_
      refine xg 51 (pB (decide ((64 : Int) < (((2 : Int) * (s0.length : Int)) - ((2 : Int) - (((idx v5_0 (0 : Int)) % (2 : UInt8)).toNat : Int)))))) rfl rfl (fun hg => sf_gtr (a := (((2 : Int) * (s0.length : Int)) - ((2 : Int) - (((idx v5_0 (0 : Int)) % (2 : UInt8)).toNat : Int)))) (b := (64 : Int)) rfl rfl rfl g3) ?_
      refine xs 52 rfl (sf_pickO rfl rfl rfl rfl (fun _ => rfl) (fun hb => by rw [hb]; rfl) ?_)
      refine XK.nz ?_
      refine QW.cond (t := (((decide ((3 : Int) < ((idx v5_0 (0 : Int)).toNat : Int))) || ((decide ((((idx v5_0 (0 : Int)) % (2 : UInt8)).toNat : Int) = (0 : Int))) && (!decide (((idx v5_0 (1 : Int)).toNat : Int) = (0 : Int))))) || (decide ((64 : Int) < (((2 : Int) * (s0.length : Int)) - ((2 : Int) - (((idx v5_0 (0 : Int)) % (2 : UInt8)).toNat : Int))))))) rfl zL (fun hb_14 => ?_) (fun hb_14 => ?_)
      · replace h := bGT h hb_14
        refine sR ?_
        refine xa 2 (.full (([] : (List UInt8)).map byteD)) ?_
        refine xa 3 (pB false) ?_
        refine xz 4 (pI (6)) ?_
        refine QW.ret zL (thR ?_)
        obtain rfl := sG h
        exact Ends.more (.inr rfl) rfl (ps := [.full (([] : (List UInt8)).map byteD), pB false, pI (6)]) (And.intro (ResIs.tmp rfl) (And.intro (ResIs.tmp rfl) (And.intro (ResIs.tmp rfl) trivial))) rfl rfl
      · replace h := bGF h hb_14
        refine QW.skip zL (nrm ?_)
        refine sR ?_
        refine xs 53 rfl (sf_ldV (v := .own 1 (v5_0.map byteD)) rfl TT.tyA_49 rfl rfl ⟨⟨by simp, by simp⟩, rfl⟩ ?_)
        refine xm 54 (pI ((2 : Int) - (((idx v5_0 (0 : Int)) % (2 : UInt8)).toNat : Int))) ?_
        refine xs 55 rfl (sf_ldV (v := .own 1 (v5_0.map byteD)) rfl TT.tyA_49 rfl rfl ⟨⟨by simp, by simp⟩, rfl⟩ ?_)
        refine xs 56 rfl (sf_lenL (en := byteD) (l := v5_0) rfl TT.under_49 rfl ?_)
        refine xs 57 rfl (sf_ldV (v := .own 1 (v5_0.map byteD)) rfl TT.tyA_49 rfl rfl ⟨⟨by simp, by simp⟩, rfl⟩ ?_)
        refine xs 58 rfl (sf_lenL (en := byteD) (l := v5_0) rfl TT.under_49 rfl ?_)
        obtain ⟨c_15, h⟩ := gG h
        refine xs 59 rfl (sf_subL3 (l := v5_0) (a := ((2 : Int) - (((idx v5_0 (0 : Int)) % (2 : UInt8)).toNat : Int))) (b := (v5_0.length : Int)) rfl TT.under_49 TT.slcA_49 lay_byte rfl rfl rfl rfl c_15 ?_)
        refine xm 60 (.d (.val (.int .u8 ((idx v5_0 (0 : Int)).toNat : Int)))) ?_
        refine xs 61 rfl (sf_geq (a := ((idx v5_0 (0 : Int)).toNat : Int)) (b := (2 : Int)) rfl rfl rfl ?_)
        refine xa 2 (.full ((sub v5_0 ((2 : Int) - (((idx v5_0 (0 : Int)) % (2 : UInt8)).toNat : Int)) (v5_0.length : Int)).map byteD)) ?_
        refine xa 3 (pB (decide ((2 : Int) ≤ ((idx v5_0 (0 : Int)).toNat : Int)))) ?_
        refine xz 4 (pI (0)) ?_
        refine QW.ret zL ?_
        obtain rfl := sG h
        exact Ends.more (.inr rfl) rfl (ps := [.full ((sub v5_0 ((2 : Int) - (((idx v5_0 (0 : Int)) % (2 : UInt8)).toNat : Int)) (v5_0.length : Int)).map byteD), pB (decide ((2 : Int) ≤ ((idx v5_0 (0 : Int)).toNat : Int))), pI (0)]) (And.intro (ResIs.tmp rfl) (And.intro (ResIs.tmp rfl) (And.intro (ResIs.tmp rfl) trivial))) rfl rfl
inductive C_rlp_Head where
  | S
  | L2 (n0_2 : Int) (v5_3 : Int) (v6 : (List UInt8))
noncomputable def step_rlp_Head (n0 : Int) (isList1 : Bool) : C_rlp_Head → Option (C_rlp_Head ⊕ (List UInt8))
  | .S =>
    (((bif isList1 then
    some (192)
    else
    some (128)) : Option Int).bind fun (v5 : Int) =>
    (bif (decide ((minI (maxI n0 (0 : Int)) (4294967296 : Int)) ≤ (55 : Int))) then
    gO (inI (v5 + (minI (maxI n0 (0 : Int)) (4294967296 : Int)))) (
    some (.inr ([(u8I (v5 + (minI (maxI n0 (0 : Int)) (4294967296 : Int))))] : List UInt8)))
    else
    some (.inl (.L2 (minI (maxI n0 (0 : Int)) (4294967296 : Int)) v5 ([] : (List UInt8))))))
  | .L2 n0_2 v5_3 v6 =>
    (bif (decide ((0 : Int) < n0_2)) then
    gO ((([(u8I n0_2)] : List UInt8).length + v6.length) * 1 ≤ 140737488355328) (
    some (.inl (.L2 (shrI n0_2 (8 : Int)) v5_3 (([(u8I n0_2)] : List UInt8) ++ v6))))
    else
    gO (inI (v5_3 + (55 : Int))) (
    gO (inI ((v5_3 + (55 : Int)) + (v6.length : Int))) (
    gO (([(u8I ((v5_3 + (55 : Int)) + (v6.length : Int)))] : List UInt8).length + v6.length ≤ 9223372036854775807) (
    some (.inr (([(u8I ((v5_3 + (55 : Int)) + (v6.length : Int)))] : List UInt8) ++ v6))))))
noncomputable def g_rlp_Head (n0 : Int) (isList1 : Bool) : Option (List UInt8) := theC (step_rlp_Head n0 isList1) .S
theorem sim_rlp_Head (n0 : Int) (isList1 : Bool) (r : (List UInt8)) (h : g_rlp_Head n0 isList1 = some r) : Fun Try.prog 167 [.val (.int .i64 n0), .val (.bool isList1)] (.val (sV r)) := by
  refine Fun.of_bodyQ Try.func167 rfl (by simp [Try.ntmps167]) ?_
  rw [Try.ntmps167, TT.res_167]
  refine QW.view (s' := ⟨tab [(0, pI n0), (1, pB isList1)], tabH [], 0, []⟩) (View.init (by rfl)) zL ?_
  replace h := theC_get h
  obtain ⟨_, h⟩ := h
  obtain ⟨k_0, rfl, h9⟩ := run_succ h; replace h := h9; clear h9; rw [step_rlp_Head] at h
  refine sR ?_
  refine xz 4 (pS ([] : List UInt8)) ?_
  refine sR ?_
  refine xm 7 (pI n0) ?_
  refine xs 8 rfl (sf_max (a := n0) (b := (0 : Int)) rfl rfl rfl ?_)
  refine xs 9 rfl (sf_min (a := (maxI n0 (0 : Int))) (b := (4294967296 : Int)) rfl rfl rfl ?_)
  refine xz 0 (pI (minI (maxI n0 (0 : Int)) (4294967296 : Int))) ?_
  refine sR ?_
  refine xz 5 (pI (128)) ?_
  obtain ⟨v5, hq, h⟩ := bG h
  refine QW.seqI (fun s' => s' = ⟨tab [(0, pI (minI (maxI n0 (0 : Int)) (4294967296 : Int))), (5, pI v5)], tabH [], 0, []⟩) ?_ ?_
  · replace h := hq; clear hq
    refine sR ?_
    refine xm 10 (pB isList1) ?_
    refine XK.nz ?_
    refine QW.cond (t := isList1) rfl zL (fun hb_1 => ?_) (fun hb_1 => ?_)
    · replace h := bT h hb_1
      refine rG ?_
      refine xz 5 (pI (192)) ?_
      obtain rfl := sO h
      exact ⟨⟨tab [(0, pI (minI (maxI n0 (0 : Int)) (4294967296 : Int))), (5, pI (192))], tabH [], 0, []⟩, View.mk 0 [] _ _ _ rfl rfl (by decide) (iC (iC trivial)) trivial rfl zL rfl, rfl⟩
    · replace h := bF h hb_1
      refine QW.skip zL (nrm ?_)
      obtain rfl := sO h
      exact ⟨⟨tab [(0, pI (minI (maxI n0 (0 : Int)) (4294967296 : Int))), (5, pI (128))], tabH [], 0, []⟩, View.mk 0 [] _ _ _ rfl rfl (by decide) (iC (iC trivial)) trivial rfl zL rfl, rfl⟩
  · rintro _ rfl
    refine QW.seq ?_
    refine sR ?_
    refine xm 11 (pI (minI (maxI n0 (0 : Int)) (4294967296 : Int))) ?_
    refine xs 12 rfl (sf_leq (a := (minI (maxI n0 (0 : Int)) (4294967296 : Int))) (b := (55 : Int)) rfl rfl rfl ?_)
    refine XK.nz ?_
    refine QW.cond (t := (decide ((minI (maxI n0 (0 : Int)) (4294967296 : Int)) ≤ (55 : Int)))) rfl zL (fun hb_2 => ?_) (fun hb_2 => ?_)
    · replace h := bGT h hb_2
      refine sR ?_
      refine xm 13 (pI v5) ?_
      refine xm 14 (pI (minI (maxI n0 (0 : Int)) (4294967296 : Int))) ?_
      obtain ⟨c_3, h⟩ := gG h
      refine xs 15 rfl (sf_add (a := v5) (b := (minI (maxI n0 (0 : Int)) (4294967296 : Int))) rfl rfl rfl c_3 ?_)
      refine xs 16 rfl (sf_toU8 (n := (v5 + (minI (maxI n0 (0 : Int)) (4294967296 : Int)))) rfl TT.under_3 TT.under_5 rfl ?_)
      refine xs 17 rfl (sf_row (en := byteD) (l := ([(u8I (v5 + (minI (maxI n0 (0 : Int)) (4294967296 : Int))))] : List UInt8)) rfl TT.rowA_49 lay_byte rfl rfl (by decide) (by simp [solids, partsP, evP, ofVal, PV.solid, putS_at, tab, unS, unT, unC, asCond, Value.oneCell']) ?_)
      refine xs 18 rfl (sf_b2s (l := ([(u8I (v5 + (minI (maxI n0 (0 : Int)) (4294967296 : Int))))] : List UInt8)) rfl TT.under_49 TT.under_5 TT.under_9 rfl ?_)
      refine xz 4 (pS ([(u8I (v5 + (minI (maxI n0 (0 : Int)) (4294967296 : Int))))] : List UInt8)) ?_
      refine QW.ret zL (thR ?_)
      obtain rfl := sG h
      exact Ends.one (.inr rfl) rfl (ResIs.tmp rfl) rfl rfl
    · replace h := bGF h hb_2
      refine QW.skip zL (nrm ?_)
      refine sR ?_
      refine xz 6 (.full (([] : (List UInt8)).map byteD)) ?_
      refine QW.seq ?_
      refine QW.block ?_
      refine QW.loop (fun k σ => ∃ n0_2 : Int, ∃ v5_3 : Int, ∃ v6 : (List UInt8), k ≤ k_0 ∧ run (step_rlp_Head n0 isList1) k (.L2 n0_2 v5_3 v6) = some r ∧ σ = ⟨tab [(0, pI n0_2), (5, pI v5_3), (6, .d (.slice (v6.map byteD)))], tabH [], 0, []⟩) k_0 zL ⟨⟨tab [(0, pI (minI (maxI n0 (0 : Int)) (4294967296 : Int))), (5, pI v5), (6, .d (.slice (([] : (List UInt8)).map byteD)))], tabH [], 0, []⟩, View.mk 0 [] _ _ _ rfl rfl (by decide) (iC (iC (And.intro (Imp.toD rfl) trivial))) trivial rfl zL rfl, (minI (maxI n0 (0 : Int)) (4294967296 : Int)), v5, ([] : (List UInt8)), Nat.le_refl _, jG h, rfl⟩ ?_
      rintro k_4s _ ⟨n0_2, v5_3, v6, k_4h, h, rfl⟩
      obtain ⟨k_4, rfl, h9⟩ := run_succ h; replace h := h9; clear h9; rw [step_rlp_Head] at h
      refine QW.seq ?_
      refine sR ?_
      refine xm 19 (pI n0_2) ?_
      refine xs 20 rfl (sf_gtr (a := n0_2) (b := (0 : Int)) rfl rfl rfl ?_)
      refine XK.nz ?_
      refine QW.cond (t := (decide ((0 : Int) < n0_2))) rfl zL (fun hb_5 => ?_) (fun hb_5 => ?_)
      · replace h := bGT h hb_5
        refine QW.skip zL (nrm ?_)
        refine QW.seq ?_
        refine QW.block ?_
        refine rG ?_
        refine xm 23 (pI n0_2) ?_
        refine xs 24 rfl (sf_toU8 (n := n0_2) rfl TT.under_3 TT.under_5 rfl ?_)
        refine xs 25 rfl (sf_row (en := byteD) (l := ([(u8I n0_2)] : List UInt8)) rfl TT.rowA_49 lay_byte rfl rfl (by decide) (by simp [solids, partsP, evP, ofVal, PV.solid, putS_at, tab, unS, unT, unC, asCond, Value.oneCell']) ?_)
        refine xm 26 (.d (.slice (v6.map byteD))) ?_
        obtain ⟨c_6, h⟩ := gG h
        refine XK.pr (v := .d (.slice ((([(u8I n0_2)] : List UInt8) ++ v6).map byteD))) (some 27) rfl rfl (pr_app (en := byteD) (l := ([(u8I n0_2)] : List UInt8)) (l2 := v6) rfl TT.rowA_49 TT.under_49 rfl lay_byte rfl rfl c_6 (by decide)) ?_
        refine xa 6 (.d (.slice ((([(u8I n0_2)] : List UInt8) ++ v6).map byteD))) ?_
        refine XK.nil (blN (nrm ?_))
        refine rG ?_
        refine xm 21 (pI n0_2) ?_
        refine xs 22 rfl (sf_shr (a := n0_2) (b := (8 : Int)) rfl rfl rfl (by decide) ?_)
        refine xz 0 (pI (shrI n0_2 (8 : Int))) ?_
        exact ⟨k_4, by omega, ⟨tab [(0, pI (shrI n0_2 (8 : Int))), (5, pI v5_3), (6, .d (.slice ((([(u8I n0_2)] : List UInt8) ++ v6).map byteD)))], tabH [], 0, []⟩, View.mk 0 [] _ _ _ rfl rfl (by decide) (iC (iC (iC trivial))) trivial rfl zL rfl, (shrI n0_2 (8 : Int)), v5_3, (([(u8I n0_2)] : List UInt8) ++ v6), by omega, jG h, rfl⟩
      · replace h := bGF h hb_5
        refine QW.exit zL (thX (thX (exE (nrm ?_))))
        refine sR ?_
        refine xm 28 (pI v5_3) ?_
        obtain ⟨c_7, h⟩ := gG h
        refine xs 29 rfl (sf_add (a := v5_3) (b := (55 : Int)) rfl rfl rfl c_7 ?_)
        refine xm 30 (.d (.slice (v6.map byteD))) ?_
        refine xs 31 rfl (sf_lenL (en := byteD) (l := v6) rfl TT.under_49 rfl ?_)
        obtain ⟨c_8, h⟩ := gG h
        refine xs 32 rfl (sf_add (a := (v5_3 + (55 : Int))) (b := (v6.length : Int)) rfl rfl rfl c_8 ?_)
        refine xs 33 rfl (sf_toU8 (n := ((v5_3 + (55 : Int)) + (v6.length : Int))) rfl TT.under_3 TT.under_5 rfl ?_)
        refine xs 34 rfl (sf_row (en := byteD) (l := ([(u8I ((v5_3 + (55 : Int)) + (v6.length : Int)))] : List UInt8)) rfl TT.rowA_49 lay_byte rfl rfl (by decide) (by simp [solids, partsP, evP, ofVal, PV.solid, putS_at, tab, unS, unT, unC, asCond, Value.oneCell']) ?_)
        refine xs 35 rfl (sf_b2s (l := ([(u8I ((v5_3 + (55 : Int)) + (v6.length : Int)))] : List UInt8)) rfl TT.under_49 TT.under_5 TT.under_9 rfl ?_)
        refine xm 36 (.d (.slice (v6.map byteD))) ?_
        refine xs 37 rfl (sf_b2s (l := v6) rfl TT.under_49 TT.under_5 TT.under_9 rfl ?_)
        obtain ⟨c_9, h⟩ := gG h
        refine xs 38 rfl (sf_cat (a := ([(u8I ((v5_3 + (55 : Int)) + (v6.length : Int)))] : List UInt8)) (b := v6) rfl rfl rfl c_9 ?_)
        refine xz 4 (pS (([(u8I ((v5_3 + (55 : Int)) + (v6.length : Int)))] : List UInt8) ++ v6)) ?_
        refine QW.ret zL ?_
        obtain rfl := sG h
        exact Ends.one (.inr rfl) rfl (ResIs.tmp rfl) rfl rfl
inductive C_rlp_counter_put where
  | S
  | L1 (v7 : (List UInt8)) (v56 : Int) (c0_0_2 : Int)
noncomputable def step_rlp_counter_put (self : Item → Int → counter → Option (((List UInt8) ⊕ Int) × counter)) (x1 : Item) (depth2 : Int) (c0 : counter) : C_rlp_counter_put → Option (C_rlp_counter_put ⊕ (((List UInt8) ⊕ Int) × counter))
  | .S =>
    ((g_rlp_counter_one depth2 c0).bind fun xx => match xx with
    | (.inl v_6, c_3) =>
        ((g_rlp_must ((x1.fS == ([] : List UInt8)) || (!(x1).fList)) (6)).bind fun xx => match xx with
        | .inl v_11 =>
            ((g_rlp_must ((decide (((x1.fL).length : Int) = (0 : Int))) || x1.fList) (6)).bind fun xx => match xx with
            | .inl v_16 =>
                (bif (!(x1).fList) then
                gO ((decide (((x1.fS).length : Int) = (1 : Int))) = true → 0 ≤ (0 : Int) ∧ (0 : Int) < ((x1.fS).length : Int)) (
                (bif ((decide (((x1.fS).length : Int) = (1 : Int))) && (decide (((idx (x1.fS) (0 : Int)).toNat : Int) < (128 : Int)))) then
                some (.inr ((.inl (x1.fS)), c_3))
                else
                ((g_rlp_Head ((x1.fS).length : Int) false).bind fun (x_20 : (List UInt8)) =>
                gO (x_20.length + (x1.fS).length ≤ 9223372036854775807) (
                some (.inr ((.inl (x_20 ++ x1.fS)), c_3))))))
                else
                some (.inl (.L1 ([] : (List UInt8)) (0) (c_3.fn))))
            | .inr e_15 =>
                some (.inr (.inr e_15, c_3)))
        | .inr e_10 =>
            some (.inr (.inr e_10, c_3)))
    | (.inr e_5, c_3) =>
        some (.inr (.inr e_5, c_3)))
  | .L1 v7 v56 c0_0_2 =>
    (bif (decide (v56 < ((x1.fL).length : Int))) then
    gO (0 ≤ v56 ∧ v56 < ((x1.fL).length : Int)) (
    gO (inI (depth2 + (1 : Int))) (
    ((self (idx (x1.fL) v56) (depth2 + (1 : Int)) (⟨c0_0_2⟩ : counter)).bind fun xx => match xx with
    | (.inl v_32, c_29) =>
        gO ((v7.length + v_32.length) * 1 ≤ 140737488355328) (
        gO (inI (v56 + (1 : Int))) (
        some (.inl (.L1 (v7 ++ v_32) (v56 + (1 : Int)) (c_29.fn)))))
    | (.inr e_31, c_29) =>
        some (.inr (.inr e_31, c_29)))))
    else
    ((g_rlp_Head (v7.length : Int) true).bind fun (x_35 : (List UInt8)) =>
    gO (x_35.length + v7.length ≤ 9223372036854775807) (
    some (.inr ((.inl (x_35 ++ v7)), (⟨c0_0_2⟩ : counter))))))
noncomputable def gs_rlp_counter_put (self : Item → Int → counter → Option (((List UInt8) ⊕ Int) × counter)) (x1 : Item) (depth2 : Int) (c0 : counter) : Option (((List UInt8) ⊕ Int) × counter) := theC (step_rlp_counter_put self x1 depth2 c0) .S
theorem sims_rlp_counter_put (self : Item → Int → counter → Option (((List UInt8) ⊕ Int) × counter)) (hself : ∀ (y0 : Item) (y1 : Int) (y2 : counter) (rr : (((List UInt8) ⊕ Int) × counter)), self y0 y1 y2 = some rr → Spec Try.prog 146 [.vptr 0 0, .d (.agg (cItem y0)), pI y1] (tabH [.var [pI (y2.fn)]]) 1 (postX (match rr.1 with | .inl x => Out.ret (pS x) | .inr e => Out.pan (.d (.iface 193 (.agg [.val (.int .i64 e)])))) (tabH [.var [pI ((rr.2).fn)]]) 1)) (x1 : Item) (depth2 : Int) (c0 : counter) (r : (((List UInt8) ⊕ Int) × counter)) (h : gs_rlp_counter_put self x1 depth2 c0 = some r) : Spec Try.prog 146 [.vptr 0 0, .d (.agg (cItem x1)), pI depth2] (tabH [.var [pI (c0.fn)]]) 1 (postX (match r.1 with | .inl x => Out.ret (pS x) | .inr e => Out.pan (.d (.iface 193 (.agg [.val (.int .i64 e)])))) (tabH [.var [pI ((r.2).fn)]]) 1) := by
  refine Spec.of_bodyS Try.func146 rfl (by simp [Try.ntmps146]) bL ?_
  rw [Try.ntmps146, TT.res_146]
  refine QW.view (s' := ⟨tab [(0, .vptr 0 0), (1, .d (.agg (cItem x1))), (2, pI depth2)], tabH [.var [pI (c0.fn)]], 1, []⟩) (View.initP bL (by rfl)) bL ?_
  replace h := theC_get h
  obtain ⟨_, h⟩ := h
  obtain ⟨k_0, rfl, h9⟩ := run_succ h; replace h := h9; clear h9; rw [step_rlp_counter_put] at h
  refine sRb ?_
  refine XK.fz (some 4) rfl rfl (sf_boxF (ds := cItem x1) rfl rfl rfl rfl rfl ?_)
  refine xz 6 (pS ([] : List UInt8)) ?_
  refine sRb ?_
  refine xm 10 (.vptr 0 0) ?_
  refine xm 11 (pI depth2) ?_
  obtain ⟨⟨v_6 | e_5, c_3⟩, hx_2, h⟩ := bG h
  · refine XK.fr (p := .tuple []) (H2 := putH _ 0 (some (.var [pI (c_3.fn)]))) (nx2 := 1) (some 12) rfl rfl (xcall_frame [0] rfl rfl TT.enters_165 (sim_rlp_counter_one depth2 c0 _ hx_2) rfl rfl (by decide) (And.intro rfl trivial) bL) rfl rfl rfl ?_
    refine XK.nz ?_
    refine sRb ?_
    refine xs 13 rfl (sf_fldC rfl TT.fldA_125_1 (by decide) rfl ?_)
    refine xs 14 rfl (sf_ldC (d := .val (sV (x1.fS))) rfl TT.tyA_9 rfl (LdC.one) ?_)
    refine xs 15 rfl (sf_seq (a := x1.fS) (b := ([] : List UInt8)) rfl rfl rfl ?_)
    refine xm 16 (pB (x1.fS == ([] : List UInt8))) ?_
    refine xg 17 (.d (.cptr ((cItem x1).drop 0))) rfl rfl (fun hg => sf_fldC rfl TT.fldA_125_0 (by decide) rfl g3) ?_
    refine xg 18 (pB (x1.fList)) rfl rfl (fun hg => sf_ldC (d := .val (.bool (x1.fList))) rfl TT.tyA_4 rfl (LdC.one) g3) ?_
    refine xg 19 (pB (!(x1).fList)) rfl rfl (fun hg => sf_not rfl rfl g3) ?_
    refine xs 20 rfl (sf_pickO rfl rfl rfl rfl (fun _ => rfl) (fun hb => by rw [hb]; rfl) ?_)
    obtain ⟨v_11 | e_10, hx_8, h⟩ := bG h
    · refine XK.fr (p := .tuple []) (H2 := _) (nx2 := 1) (some 21) rfl rfl (xcall_frame [] rfl rfl TT.enters_166 (sim_rlp_must ((x1.fS == ([] : List UInt8)) || (!(x1).fList)) (6) _ hx_8) rfl rfl (by decide) trivial bL) rfl rfl rfl ?_
      refine XK.nz ?_
      refine sRb ?_
      refine xs 22 rfl (sf_fldC rfl TT.fldA_125_2 (by decide) rfl ?_)
      refine xs 23 rfl (sf_ldC (d := .slice ((x1.fL).map eItem)) rfl TT.tyA_123 rfl (LdC.one) ?_)
      refine xs 24 rfl (sf_lenL (en := eItem) (l := x1.fL) rfl TT.under_123 rfl ?_)
      refine xs 25 rfl (sf_eq (a := ((x1.fL).length : Int)) (b := (0 : Int)) rfl rfl rfl ?_)
      refine xm 26 (pB (decide (((x1.fL).length : Int) = (0 : Int)))) ?_
      refine xg 27 (.d (.cptr ((cItem x1).drop 0))) rfl rfl (fun hg => sf_fldC rfl TT.fldA_125_0 (by decide) rfl g3) ?_
      refine xg 28 (pB (x1.fList)) rfl rfl (fun hg => sf_ldC (d := .val (.bool (x1.fList))) rfl TT.tyA_4 rfl (LdC.one) g3) ?_
      refine xs 29 rfl (sf_pickO rfl rfl rfl rfl (fun _ => rfl) (fun hb => by rw [hb]; rfl) ?_)
      obtain ⟨v_16 | e_15, hx_13, h⟩ := bG h
      · refine XK.fr (p := .tuple []) (H2 := _) (nx2 := 1) (some 30) rfl rfl (xcall_frame [] rfl rfl TT.enters_166 (sim_rlp_must ((decide (((x1.fL).length : Int) = (0 : Int))) || x1.fList) (6) _ hx_13) rfl rfl (by decide) trivial bL) rfl rfl rfl ?_
        refine XK.nz ?_
        refine QW.seq ?_
        refine QW.seq ?_
        refine QW.view (s' := ⟨tab [(0, .vptr 0 0), (2, pI depth2), (4, .d (.cptr (cItem x1)))], tabH [.var [pI (c_3.fn)]], 1, []⟩) (View.mk 1 [0] _ _ _ rfl rfl (by decide) (iC (iC (iC trivial))) (And.intro rfl trivial) rfl bL rfl) bL ?_
        refine rGb ?_
        refine xs 31 rfl (sf_fldC rfl TT.fldA_125_0 (by decide) rfl ?_)
        refine xs 32 rfl (sf_ldC (d := .val (.bool (x1.fList))) rfl TT.tyA_4 rfl (LdC.one) ?_)
        refine xs 33 rfl (sf_not rfl rfl ?_)
        refine XK.nz ?_
        refine QW.cond (t := (!(x1).fList)) rfl bL (fun hb_17 => ?_) (fun hb_17 => ?_)
        · replace h := bGT h hb_17
          refine QW.seq ?_
          refine sRb ?_
          refine xs 34 rfl (sf_fldC rfl TT.fldA_125_1 (by decide) rfl ?_)
          refine xs 35 rfl (sf_ldC (d := .val (sV (x1.fS))) rfl TT.tyA_9 rfl (LdC.one) ?_)
          refine xs 36 rfl (sf_lenS (l := x1.fS) rfl TT.under_9 rfl ?_)
          refine xs 37 rfl (sf_eq (a := ((x1.fS).length : Int)) (b := (1 : Int)) rfl rfl rfl ?_)
          refine xm 38 (pB (decide (((x1.fS).length : Int) = (1 : Int)))) ?_
          refine xg 39 (.d (.cptr ((cItem x1).drop 1))) rfl rfl (fun hg => sf_fldC rfl TT.fldA_125_1 (by decide) rfl g3) ?_
          refine xg 40 (pS (x1.fS)) rfl rfl (fun hg => sf_ldC (d := .val (sV (x1.fS))) rfl TT.tyA_9 rfl (LdC.one) g3) ?_
          obtain ⟨c_18, h⟩ := gG h
          refine xg 41 (.d (.val (.int .u8 ((idx (x1.fS) (0 : Int)).toNat : Int)))) rfl rfl (fun hg => sf_idxS (l := x1.fS) (i := (0 : Int)) rfl TT.under_9 TT.arrA_9 rfl rfl (c_18 (eqB hg)) g3) ?_
          refine xg 42 (pB (decide (((idx (x1.fS) (0 : Int)).toNat : Int) < (128 : Int)))) rfl rfl (fun hg => sf_lss (a := ((idx (x1.fS) (0 : Int)).toNat : Int)) (b := (128 : Int)) rfl rfl rfl g3) ?_
          refine xs 43 rfl (sf_pickA rfl rfl rfl rfl (fun hb => by rw [hb]; rfl) (fun _ => rfl) ?_)
          refine XK.nz ?_
          refine QW.cond (t := ((decide (((x1.fS).length : Int) = (1 : Int))) && (decide (((idx (x1.fS) (0 : Int)).toNat : Int) < (128 : Int))))) rfl bL (fun hb_19 => ?_) (fun hb_19 => ?_)
          · replace h := bGT h hb_19
            refine sRb ?_
            refine xs 44 rfl (sf_fldC rfl TT.fldA_125_1 (by decide) rfl ?_)
            refine xs 45 rfl (sf_ldC (d := .val (sV (x1.fS))) rfl TT.tyA_9 rfl (LdC.one) ?_)
            refine xz 6 (pS (x1.fS)) ?_
            refine QW.ret bL (thR (thR ?_))
            obtain rfl := sG h
            exact EndsS.one (s' := ⟨tab [(6, pS (x1.fS))], tabH [.var [pI (c_3.fn)]], 1, []⟩) (.inr rfl) (View.mk 1 [0] _ _ _ rfl rfl (by decide) (iC trivial) (And.intro rfl trivial) rfl bL rfl) rfl bL (fun i hi => tabH_app [.var [pI (c_3.fn)]] [] i hi) rfl (by simp [HO.idsLts, HO.idsLt, PV.idsLts, PV.idsLt, idsLts_d, rowC]) (ResIs.tmp rfl) (by simp [PV.idsLts, PV.idsLt, idsLts_d])
          · replace h := bGF h hb_19
            refine QW.skip bL (nrm ?_)
            refine QW.seq ?_
            refine QW.region bL (PW.regQ (id := 7) mixedX (M := _) rfl (by kernel_rfl) ?_)
            refine RQ.st (some 46) rfl rfl (sf_fldC rfl TT.fldA_125_1 (by decide) rfl ⟨⟨rfl, rfl⟩, ?_⟩)
            refine RQ.st (some 47) rfl rfl (sf_ldC (d := .val (sV (x1.fS))) rfl TT.tyA_9 rfl (LdC.one) ⟨⟨rfl, rfl⟩, ?_⟩)
            refine RQ.st (some 48) rfl rfl (sf_lenS (l := x1.fS) rfl TT.under_9 rfl ⟨⟨rfl, rfl⟩, ?_⟩)
            obtain ⟨x_20, hx_21, h⟩ := bG h
            refine RQ.st (some 49) rfl rfl (sf_call rfl rfl TT.enters_167 rfl (sim_rlp_Head ((x1.fS).length : Int) false _ hx_21) ⟨⟨rfl, rfl⟩, ?_⟩)
            refine RQ.st (some 50) rfl rfl (sf_fldC rfl TT.fldA_125_1 (by decide) rfl ⟨⟨rfl, rfl⟩, ?_⟩)
            refine RQ.st (some 51) rfl rfl (sf_ldC (d := .val (sV (x1.fS))) rfl TT.tyA_9 rfl (LdC.one) ⟨⟨rfl, rfl⟩, ?_⟩)
            obtain ⟨c_22, h⟩ := gG h
            refine RQ.st (some 52) rfl rfl (sf_cat (a := x_20) (b := x1.fS) rfl rfl rfl c_22 ⟨⟨rfl, rfl⟩, ?_⟩)
            refine RQ.st (some 6) rfl rfl (sf_assign (v := pS (x_20 ++ x1.fS)) rfl rfl ⟨⟨rfl, rfl⟩, ?_⟩)
            refine RQ.nil (nrm ?_)
            refine QW.ret bL (thR ?_)
            obtain rfl := sG h
            exact EndsS.one (s' := ⟨tab [(6, pS (x_20 ++ x1.fS))], tabH [.var [pI (c_3.fn)]], 1, []⟩) (.inr rfl) (View.mk 1 [0] _ _ _ rfl rfl (by decide) (iC trivial) (And.intro rfl trivial) rfl bL rfl) rfl bL (fun i hi => tabH_app [.var [pI (c_3.fn)]] [] i hi) rfl (by simp [HO.idsLts, HO.idsLt, PV.idsLts, PV.idsLt, idsLts_d, rowC]) (ResIs.tmp rfl) (by simp [PV.idsLts, PV.idsLt, idsLts_d])
        · replace h := bGF h hb_17
          refine QW.skip bL (nrm ?_)
          refine sRb ?_
          refine xz 7 (.full (([] : (List UInt8)).map byteD)) ?_
          refine QW.seq ?_
          refine sRb ?_
          refine xs 53 rfl (sf_fldC rfl TT.fldA_125_2 (by decide) rfl ?_)
          refine xs 54 rfl (sf_ldC (d := .slice ((x1.fL).map eItem)) rfl TT.tyA_123 rfl (LdC.one) ?_)
          refine xs 55 rfl (sf_lenL (en := eItem) (l := x1.fL) rfl TT.under_123 rfl ?_)
          refine xm 56 (pI (0)) ?_
          refine XK.nz ?_
          refine QW.block ?_
          refine QW.loop (fun k σ => ∃ v7 : (List UInt8), ∃ v56 : Int, ∃ c0_0_2 : Int, k ≤ k_0 ∧ run (step_rlp_counter_put self x1 depth2 c0) k (.L1 v7 v56 c0_0_2) = some r ∧ σ = ⟨tab [(0, .vptr 0 0), (2, pI depth2), (7, .own 1 (v7.map byteD)), (54, .d (.slice ((x1.fL).map eItem))), (55, pI ((x1.fL).length : Int)), (56, pI v56)], tabH [.var [pI c0_0_2], .spare 1 v7.length], 2, []⟩) k_0 bL ⟨⟨tab [(0, .vptr 0 0), (2, pI depth2), (7, .own 1 (([] : (List UInt8)).map byteD)), (54, .d (.slice ((x1.fL).map eItem))), (55, pI ((x1.fL).length : Int)), (56, pI (0))], tabH [.var [pI (c_3.fn)], .spare 1 ([] : (List UInt8)).length], 2, []⟩, View.trans (View.buf 7 1 rfl bL) (View.mk 2 [0, 1] _ _ _ rfl rfl (by decide) (iC (iC (iC (iC (iC (iC trivial)))))) (And.intro rfl (And.intro rfl trivial)) rfl bL rfl), ([] : (List UInt8)), 0, c_3.fn, Nat.le_refl _, jG h, rfl⟩ ?_
          rintro k_23s _ ⟨v7, v56, c0_0_2, k_23h, h, rfl⟩
          obtain ⟨k_23, rfl, h9⟩ := run_succ h; replace h := h9; clear h9; rw [step_rlp_counter_put] at h
          refine sRb ?_
          refine xs 57 rfl (sf_lss (a := v56) (b := ((x1.fL).length : Int)) rfl rfl rfl ?_)
          refine XK.nz ?_
          refine QW.seq ?_
          refine QW.cond (t := (decide (v56 < ((x1.fL).length : Int)))) rfl bL (fun hb_24 => ?_) (fun hb_24 => ?_)
          · replace h := bGT h hb_24
            refine QW.skip bL (nrm ?_)
            refine QW.seq ?_
            refine QW.block ?_
            refine sRb ?_
            obtain ⟨c_25, h⟩ := gG h
            refine xs 58 rfl (sf_idxA (l := x1.fL) (i := v56) rfl TT.slcA_123 lay_Item rfl rfl c_25 ?_)
            refine xs 59 rfl (sf_ldC (d := .agg (cItem (idx (x1.fL) v56))) rfl TT.tyA_125 rfl (⟨by simp [cItem], rfl⟩) ?_)
            refine xs 9 rfl (sf_alloc (l := [pB false, pS ([] : List UInt8), .full (([] : (List Item)).map eItem)]) rfl TT.zeroA_125 rfl rfl ?_)
            refine XK.st none rfl rfl (sf_stV (l' := [pB ((idx (x1.fL) v56).fList), pS ((idx (x1.fL) v56).fS), .d (.slice (((idx (x1.fL) v56).fL).map eItem))]) rfl TT.tyA_125 rfl rfl rfl rfl rfl rfl (by simp) rfl ?_)
            refine XK.nz ?_
            refine rGb ?_
            refine xm 60 (.own 1 (v7.map byteD)) ?_
            refine xm 61 (.vptr 0 0) ?_
            refine XK.as (some 62) rfl rfl (sf_ldV (v := .agg [pB ((idx (x1.fL) v56).fList), pS ((idx (x1.fL) v56).fS), .d (.slice (((idx (x1.fL) v56).fL).map eItem))]) rfl TT.tyA_125 rfl rfl ⟨⟨by simp, by simp⟩, rfl⟩ ⟨.d (.agg (cItem (idx (x1.fL) v56))), (Imp.toD rfl), ?_⟩)
            refine xm 63 (pI depth2) ?_
            obtain ⟨c_26, h⟩ := gG h
            refine xs 64 rfl (sf_add (a := depth2) (b := (1 : Int)) rfl rfl rfl c_26 ?_)
            obtain ⟨⟨v_32 | e_31, c_29⟩, hx_28, h⟩ := bG h
            · refine XK.fr (p := pS v_32) (H2 := putH _ 0 (some (.var [pI (c_29.fn)]))) (nx2 := 3) (some 65) rfl rfl (xcall_frame [0] rfl rfl TT.enters_146 (hself (idx (x1.fL) v56) (depth2 + (1 : Int)) (⟨c0_0_2⟩ : counter) _ hx_28) rfl rfl (by decide) (And.intro rfl trivial) bL) rfl rfl rfl ?_
              obtain ⟨c_33, h⟩ := gG h
              refine xs 66 rfl (sf_appO (en := byteD) (l := v7) (l2 := v_32) rfl TT.rowA_49 TT.under_9 rfl lay_byte rfl rfl rfl c_33 (by decide) ?_)
              refine xa 7 (.own 3 ((v7 ++ v_32).map byteD)) ?_
              refine XK.nil (blN (nrm ?_))
              refine rGb ?_
              obtain ⟨c_34, h⟩ := gG h
              refine xs 67 rfl (sf_add (a := v56) (b := (1 : Int)) rfl rfl rfl c_34 ?_)
              refine xm 56 (pI (v56 + (1 : Int))) ?_
              refine XK.nz ?_
              exact ⟨k_23, by omega, ⟨tab [(0, .vptr 0 0), (2, pI depth2), (7, .own 1 ((v7 ++ v_32).map byteD)), (54, .d (.slice ((x1.fL).map eItem))), (55, pI ((x1.fL).length : Int)), (56, pI (v56 + (1 : Int)))], tabH [.var [pI (c_29.fn)], .spare 1 (v7 ++ v_32).length], 2, []⟩, View.mk 2 [0, 3] _ _ _ rfl rfl (by decide) (iC (iC (iC (iC (iC (iC trivial)))))) (And.intro rfl (And.intro rfl trivial)) rfl bL rfl, (v7 ++ v_32), (v56 + (1 : Int)), c_29.fn, by omega, jG h, rfl⟩
            · refine XK.fp (p := .d (.iface 193 (.agg [.val (.int .i64 e_31)]))) (H2 := putH _ 0 (some (.var [pI (c_29.fn)]))) (nx2 := 3) rfl (xcall_frame [0] rfl rfl TT.enters_146 (hself (idx (x1.fL) v56) (depth2 + (1 : Int)) (⟨c0_0_2⟩ : counter) _ hx_28) rfl rfl (by decide) (And.intro rfl trivial) bL) rfl rfl rfl (blP (thP (thP (blP (thP ?_)))))
              obtain rfl := sG h
              exact EndsS.pan (s' := ⟨tab [], tabH [.var [pI (c_29.fn)]], 1, []⟩) (View.mk 1 [0] _ _ _ rfl rfl (by decide) trivial (And.intro rfl trivial) rfl bL rfl) rfl bL (fun i hi => tabH_app [.var [pI (c_29.fn)]] [] i hi) rfl (by simp [HO.idsLts, HO.idsLt, PV.idsLts, PV.idsLt, idsLts_d, rowC])
          · replace h := bGF h hb_24
            refine QW.exit bL (thX (thX (exE (nrm ?_))))
            refine QW.seq ?_
            refine QW.region bL (PW.regQ (id := 14) mixedX (M := _) rfl (by kernel_rfl) ?_)
            refine RQ.st (some 68) rfl rfl (sf_move (v := .own 1 (v7.map byteD)) rfl rfl ⟨⟨rfl, rfl⟩, ?_⟩)
            refine RQ.st (some 69) rfl rfl (sf_lenL (en := byteD) (l := v7) rfl TT.under_49 rfl ⟨⟨rfl, rfl⟩, ?_⟩)
            obtain ⟨x_35, hx_36, h⟩ := bG h
            refine RQ.st (some 70) rfl rfl (sf_call rfl rfl TT.enters_167 rfl (sim_rlp_Head (v7.length : Int) true _ hx_36) ⟨⟨rfl, rfl⟩, ?_⟩)
            refine RQ.st (some 71) rfl rfl (sf_move (v := .own 1 (v7.map byteD)) rfl rfl ⟨⟨rfl, rfl⟩, ?_⟩)
            refine RQ.st (some 72) rfl rfl (sf_b2s (l := v7) rfl TT.under_49 TT.under_5 TT.under_9 rfl ⟨⟨rfl, rfl⟩, ?_⟩)
            obtain ⟨c_37, h⟩ := gG h
            refine RQ.st (some 73) rfl rfl (sf_cat (a := x_35) (b := v7) rfl rfl rfl c_37 ⟨⟨rfl, rfl⟩, ?_⟩)
            refine RQ.st (some 6) rfl rfl (sf_assign (v := pS (x_35 ++ v7)) rfl rfl ⟨⟨rfl, rfl⟩, ?_⟩)
            refine RQ.nil (nrm ?_)
            refine QW.ret bL ?_
            obtain rfl := sG h
            exact EndsS.one (s' := ⟨tab [(6, pS (x_35 ++ v7))], tabH [.var [pI c0_0_2]], 1, []⟩) (.inr rfl) (View.mk 1 [0] _ _ _ rfl rfl (by decide) (iC trivial) (And.intro rfl trivial) rfl bL rfl) rfl bL (fun i hi => tabH_app [.var [pI c0_0_2]] [] i hi) rfl (by simp [HO.idsLts, HO.idsLt, PV.idsLts, PV.idsLt, idsLts_d, rowC]) (ResIs.tmp rfl) (by simp [PV.idsLts, PV.idsLt, idsLts_d])
      · refine XK.fp (p := .d (.iface 193 (.agg [.val (.int .i64 e_15)]))) (H2 := _) (nx2 := 1) rfl (xcall_frame [] rfl rfl TT.enters_166 (sim_rlp_must ((decide (((x1.fL).length : Int) = (0 : Int))) || x1.fList) (6) _ hx_13) rfl rfl (by decide) trivial bL) rfl rfl rfl (thP ?_)
        obtain rfl := sG h
        exact EndsS.pan (s' := ⟨tab [], tabH [.var [pI (c_3.fn)]], 1, []⟩) (View.mk 1 [0] _ _ _ rfl rfl (by decide) trivial (And.intro rfl trivial) rfl bL rfl) rfl bL (fun i hi => tabH_app [.var [pI (c_3.fn)]] [] i hi) rfl (by simp [HO.idsLts, HO.idsLt, PV.idsLts, PV.idsLt, idsLts_d, rowC])
    · refine XK.fp (p := .d (.iface 193 (.agg [.val (.int .i64 e_10)]))) (H2 := _) (nx2 := 1) rfl (xcall_frame [] rfl rfl TT.enters_166 (sim_rlp_must ((x1.fS == ([] : List UInt8)) || (!(x1).fList)) (6) _ hx_8) rfl rfl (by decide) trivial bL) rfl rfl rfl (thP ?_)
      obtain rfl := sG h
      exact EndsS.pan (s' := ⟨tab [], tabH [.var [pI (c_3.fn)]], 1, []⟩) (View.mk 1 [0] _ _ _ rfl rfl (by decide) trivial (And.intro rfl trivial) rfl bL rfl) rfl bL (fun i hi => tabH_app [.var [pI (c_3.fn)]] [] i hi) rfl (by simp [HO.idsLts, HO.idsLt, PV.idsLts, PV.idsLt, idsLts_d, rowC])
  · refine XK.fp (p := .d (.iface 193 (.agg [.val (.int .i64 e_5)]))) (H2 := putH _ 0 (some (.var [pI (c_3.fn)]))) (nx2 := 1) rfl (xcall_frame [0] rfl rfl TT.enters_165 (sim_rlp_counter_one depth2 c0 _ hx_2) rfl rfl (by decide) (And.intro rfl trivial) bL) rfl rfl rfl (thP ?_)
    obtain rfl := sG h
    exact EndsS.pan (s' := ⟨tab [], tabH [.var [pI (c_3.fn)]], 1, []⟩) (View.mk 1 [0] _ _ _ rfl rfl (by decide) trivial (And.intro rfl trivial) rfl bL rfl) rfl bL (fun i hi => tabH_app [.var [pI (c_3.fn)]] [] i hi) rfl (by simp [HO.idsLts, HO.idsLt, PV.idsLts, PV.idsLt, idsLts_d, rowC])
noncomputable def rec_rlp_counter_put : Nat → Item → Int → counter → Option (((List UInt8) ⊕ Int) × counter)
  | 0 => fun _ _ _ => none
  | n + 1 => fun y0 y1 y2 => gs_rlp_counter_put (rec_rlp_counter_put n) y0 y1 y2
theorem simr_rlp_counter_put : ∀ (n : Nat) (y0 : Item) (y1 : Int) (y2 : counter) (rr : (((List UInt8) ⊕ Int) × counter)), rec_rlp_counter_put n y0 y1 y2 = some rr → Spec Try.prog 146 [.vptr 0 0, .d (.agg (cItem y0)), pI y1] (tabH [.var [pI (y2.fn)]]) 1 (postX (match rr.1 with | .inl x => Out.ret (pS x) | .inr e => Out.pan (.d (.iface 193 (.agg [.val (.int .i64 e)])))) (tabH [.var [pI ((rr.2).fn)]]) 1)
  | 0, _, _, _, _, h => by cases h
  | n + 1, y0, y1, y2, rr, h => sims_rlp_counter_put (rec_rlp_counter_put n) (simr_rlp_counter_put n) y0 y1 y2 rr h
noncomputable def g_rlp_counter_put (y0 : Item) (y1 : Int) (y2 : counter) : Option (((List UInt8) ⊕ Int) × counter) := theR (fun n => rec_rlp_counter_put n y0 y1 y2)
theorem sim_rlp_counter_put (y0 : Item) (y1 : Int) (y2 : counter) (rr : (((List UInt8) ⊕ Int) × counter)) (h : g_rlp_counter_put y0 y1 y2 = some rr) : Spec Try.prog 146 [.vptr 0 0, .d (.agg (cItem y0)), pI y1] (tabH [.var [pI (y2.fn)]]) 1 (postX (match rr.1 with | .inl x => Out.ret (pS x) | .inr e => Out.pan (.d (.iface 193 (.agg [.val (.int .i64 e)])))) (tabH [.var [pI ((rr.2).fn)]]) 1) := by
  obtain ⟨n, hn⟩ := theR_get h
  exact simr_rlp_counter_put n y0 y1 y2 rr hn
noncomputable def g_rlp_Put (x0 : Item) : Option ((List UInt8) × Int) :=
    ((g_rlp_counter_put x0 (0) (⟨0⟩ : counter)).bind fun xx => match xx with
    | (.inl v_6, c_3) =>
        some (v_6, 0)
    | (.inr e_5, c_3) =>
        some (([] : List UInt8), e_5))
theorem sim_rlp_Put (x0 : Item) (r : ((List UInt8) × Int)) (h : g_rlp_Put x0 = some r) : Fun Try.prog 95 [.agg (cItem x0)] (.tuple [.val (sV (r.1)), .val (.int .i64 (r.2))]) := by
  refine Fun.of_bodyD Try.func95 rfl (by simp [Try.ntmps95]) TT.enters_145 ?_
  rw [Try.ntmps95, TT.res_95]
  refine QW.view (s' := ⟨tab [(0, .d (.agg (cItem x0)))], tabH [], 0, []⟩) (View.init (by rfl)) zL ?_
  unfold g_rlp_Put at h
  refine sR ?_
  refine XK.fz (some 1) rfl rfl (sf_boxF (ds := cItem x0) rfl rfl rfl rfl rfl ?_)
  refine xa 2 (pS ([] : List UInt8)) ?_
  refine xs 3 rfl (sf_alloc (l := [pI (0)]) rfl TT.zeroA_25 rfl rfl ?_)
  refine XK.nz ?_
  refine sR ?_
  refine XK.df (L := [.vptr 0 0]) none rfl rfl rfl rfl rfl ?_
  refine XK.nz ?_
  refine sR ?_
  refine xs 4 rfl (sf_alloc (l := [pI (0)]) rfl TT.zeroA_173 rfl rfl ?_)
  refine xs 5 rfl (sf_ldC (d := .agg (cItem x0)) rfl TT.tyA_125 rfl (⟨by simp [cItem], rfl⟩) ?_)
  obtain ⟨⟨v_6 | e_5, c_3⟩, hx_2, h⟩ := bO h
  · refine XK.fr (p := pS v_6) (H2 := putH _ 1 (some (.var [pI (c_3.fn)]))) (nx2 := 2) (some 6) rfl rfl (xcall_frame [1] rfl rfl TT.enters_146 (sim_rlp_counter_put x0 (0) (⟨0⟩ : counter) _ hx_2) rfl rfl (by decide) (And.intro rfl trivial) bL) rfl rfl rfl ?_
    refine xz 2 (pS v_6) ?_
    refine sR ?_
    refine xm 7 (pS v_6) ?_
    refine xa 2 (pS v_6) ?_
    refine XK.st none rfl rfl (sf_stV (l' := [pI (0)]) rfl TT.tyA_25 rfl rfl rfl rfl rfl rfl (by simp) rfl ?_)
    refine XK.nz ?_
    refine QW.ret zL ?_
    obtain rfl := sO h
    exact EndsD.more [pS v_6, pI (0)] 0 (pI (0)) (pI (0)) none rfl rfl (caught_none_rlp_caught 0) rfl rfl rfl (And.intro (ResIs.tmp rfl) (And.intro (ResIs.cell rfl rfl TT.tyA_25 ⟨⟨by simp, by simp⟩, rfl⟩) trivial)) rfl
  · refine XK.fp (p := .d (.iface 193 (.agg [.val (.int .i64 e_5)]))) (H2 := putH _ 1 (some (.var [pI (c_3.fn)]))) (nx2 := 2) rfl (xcall_frame [1] rfl rfl TT.enters_146 (sim_rlp_counter_put x0 (0) (⟨0⟩ : counter) _ hx_2) rfl rfl (by decide) (And.intro rfl trivial) bL) rfl rfl rfl (thP ?_)
    obtain rfl := sO h
    exact EndsD.more [pS ([] : List UInt8), pI e_5] 0 (pI (0)) (pI e_5) (some (.iface 193 (.agg [.val (.int .i64 e_5)]))) rfl rfl (caught_some_rlp_caught 0 e_5) rfl rfl (⟨_, rfl, rfl⟩) (And.intro (ResIs.tmp rfl) (And.intro (ResIs.cell rfl rfl TT.tyA_25 ⟨⟨by simp, by simp⟩, rfl⟩) trivial)) rfl
inductive C_slices_IndexFunc_byte_byte where
  | S
  | L1 (v8 : Int)
noncomputable def step_slices_IndexFunc_byte_byte (v0 : (List UInt8)) (f1 : UInt8 → Option Bool) : C_slices_IndexFunc_byte_byte → Option (C_slices_IndexFunc_byte_byte ⊕ Int)
  | .S =>
    some (.inl (.L1 (0)))
  | .L1 v8 =>
    (bif (decide (v8 < (v0.length : Int))) then
    gO (0 ≤ v8 ∧ v8 < (v0.length : Int)) (
    ((f1 (idx v0 v8)).bind fun (x_4 : Bool) =>
    (bif x_4 then
    some (.inr v8)
    else
    gO (inI (v8 + (1 : Int))) (
    some (.inl (.L1 (v8 + (1 : Int))))))))
    else
    some (.inr (-1)))
noncomputable def g_slices_IndexFunc_byte_byte (v0 : (List UInt8)) (f1 : UInt8 → Option Bool) : Option Int := theC (step_slices_IndexFunc_byte_byte v0 f1) .S
theorem sim_slices_IndexFunc_byte_byte (v0 : (List UInt8)) (f1 : UInt8 → Option Bool) (fn1 : Nat) (cp1 : List D) (he1 : entersB Try.prog fn1 = true) (hf1 : ∀ y0 r, f1 y0 = some r → Fun Try.prog fn1 ([.val (.int .u8 (y0.toNat : Int))] ++ cp1) (.val (.bool r))) (r : Int) (h : g_slices_IndexFunc_byte_byte v0 f1 = some r) : Fun Try.prog 168 [.slice (v0.map byteD), .clo fn1 cp1] (.val (.int .i64 r)) := by
  refine Fun.of_bodyQ Try.func168 rfl (by simp [Try.ntmps168]) ?_
  rw [Try.ntmps168, TT.res_168]
  refine QW.view (s' := ⟨tab [(0, .d (.slice (v0.map byteD))), (1, .d (.clo fn1 cp1))], tabH [], 0, []⟩) (View.init (by rfl)) zL ?_
  replace h := theC_get h
  obtain ⟨_, h⟩ := h
  obtain ⟨k_0, rfl, h9⟩ := run_succ h; replace h := h9; clear h9; rw [step_slices_IndexFunc_byte_byte] at h
  refine sR ?_
  refine xz 4 (pI (0)) ?_
  refine QW.seq ?_
  refine sR ?_
  refine xm 6 (.d (.slice (v0.map byteD))) ?_
  refine xs 7 rfl (sf_lenL (en := byteD) (l := v0) rfl TT.under_49 rfl ?_)
  refine xm 8 (pI (0)) ?_
  refine XK.nz ?_
  refine QW.block ?_
  refine QW.loop (fun k σ => ∃ v8 : Int, k ≤ k_0 ∧ run (step_slices_IndexFunc_byte_byte v0 f1) k (.L1 v8) = some r ∧ σ = ⟨tab [(0, .d (.slice (v0.map byteD))), (1, .d (.clo fn1 cp1)), (7, pI (v0.length : Int)), (8, pI v8)], tabH [], 0, []⟩) k_0 zL ⟨⟨tab [(0, .d (.slice (v0.map byteD))), (1, .d (.clo fn1 cp1)), (7, pI (v0.length : Int)), (8, pI (0))], tabH [], 0, []⟩, View.mk 0 [] _ _ _ rfl rfl (by decide) (iC (iC (iC (iC trivial)))) trivial rfl zL rfl, 0, Nat.le_refl _, jG h, rfl⟩ ?_
  rintro k_1s _ ⟨v8, k_1h, h, rfl⟩
  obtain ⟨k_1, rfl, h9⟩ := run_succ h; replace h := h9; clear h9; rw [step_slices_IndexFunc_byte_byte] at h
  refine sR ?_
  refine xs 9 rfl (sf_lss (a := v8) (b := (v0.length : Int)) rfl rfl rfl ?_)
  refine XK.nz ?_
  refine QW.seq ?_
  refine QW.cond (t := (decide (v8 < (v0.length : Int)))) rfl zL (fun hb_2 => ?_) (fun hb_2 => ?_)
  · replace h := bGT h hb_2
    refine QW.skip zL (nrm ?_)
    refine QW.seq ?_
    refine QW.block ?_
    refine sR ?_
    refine xm 10 (pI v8) ?_
    refine xz 5 (pI v8) ?_
    refine sR ?_
    refine xm 11 (.d (.clo fn1 cp1)) ?_
    refine xm 12 (.d (.slice (v0.map byteD))) ?_
    refine xm 13 (pI v8) ?_
    obtain ⟨c_3, h⟩ := gG h
    refine xs 14 rfl (sf_idxA (l := v0) (i := v8) rfl TT.slcA_49 lay_byte rfl rfl c_3 ?_)
    refine xs 15 rfl (sf_ldC (d := .val (.int .u8 ((idx v0 v8).toNat : Int))) rfl TT.tyA_5 rfl (LdC.one) ?_)
    obtain ⟨x_4, hx_5, h⟩ := bG h
    refine xs 16 rfl (sf_clo rfl rfl rfl he1 rfl (hf1 (idx v0 v8) _ hx_5) ?_)
    refine XK.nz ?_
    refine QW.cond (t := x_4) rfl zL (fun hb_6 => ?_) (fun hb_6 => ?_)
    · replace h := bGT h hb_6
      refine sR ?_
      refine xm 17 (pI v8) ?_
      refine xz 4 (pI v8) ?_
      refine QW.ret zL (blR (thR (thR (blR (thR ?_)))))
      obtain rfl := sG h
      exact Ends.one (.inr rfl) rfl (ResIs.tmp rfl) rfl rfl
    · replace h := bGF h hb_6
      refine QW.skip zL (blN (nrm ?_))
      refine rG ?_
      obtain ⟨c_7, h⟩ := gG h
      refine xs 18 rfl (sf_add (a := v8) (b := (1 : Int)) rfl rfl rfl c_7 ?_)
      refine xm 8 (pI (v8 + (1 : Int))) ?_
      refine XK.nz ?_
      exact ⟨k_1, by omega, ⟨tab [(0, .d (.slice (v0.map byteD))), (1, .d (.clo fn1 cp1)), (7, pI (v0.length : Int)), (8, pI (v8 + (1 : Int)))], tabH [], 0, []⟩, View.mk 0 [] _ _ _ rfl rfl (by decide) (iC (iC (iC (iC trivial)))) trivial rfl zL rfl, (v8 + (1 : Int)), by omega, jG h, rfl⟩
  · replace h := bGF h hb_2
    refine QW.exit zL (thX (thX (exE (nrm ?_))))
    refine sR ?_
    refine xz 4 (pI (-1)) ?_
    refine QW.ret zL ?_
    obtain rfl := sG h
    exact Ends.one (.inr rfl) rfl (ResIs.tmp rfl) rfl rfl
noncomputable def g_slices_ContainsFunc_byte_byte (v0 : (List UInt8)) (f1 : UInt8 → Option Bool) : Option Bool :=
    ((g_slices_IndexFunc_byte_byte v0 f1).bind fun (x_1 : Int) =>
    some (decide ((0 : Int) ≤ x_1)))
theorem sim_slices_ContainsFunc_byte_byte (v0 : (List UInt8)) (f1 : UInt8 → Option Bool) (fn1 : Nat) (cp1 : List D) (he1 : entersB Try.prog fn1 = true) (hf1 : ∀ y0 r, f1 y0 = some r → Fun Try.prog fn1 ([.val (.int .u8 (y0.toNat : Int))] ++ cp1) (.val (.bool r))) (r : Bool) (h : g_slices_ContainsFunc_byte_byte v0 f1 = some r) : Fun Try.prog 147 [.slice (v0.map byteD), .clo fn1 cp1] (.val (.bool r)) := by
  refine Fun.of_bodyQ Try.func147 rfl (by simp [Try.ntmps147]) ?_
  rw [Try.ntmps147, TT.res_147]
  refine QW.view (s' := ⟨tab [(0, .d (.slice (v0.map byteD))), (1, .d (.clo fn1 cp1))], tabH [], 0, []⟩) (View.init (by rfl)) zL ?_
  unfold g_slices_ContainsFunc_byte_byte at h
  refine sR ?_
  refine xz 4 (pB false) ?_
  refine sR ?_
  refine xm 5 (.d (.slice (v0.map byteD))) ?_
  refine xm 6 (.d (.clo fn1 cp1)) ?_
  obtain ⟨x_1, hx_2, h⟩ := bO h
  refine xs 7 rfl (sf_call rfl rfl TT.enters_168 rfl (sim_slices_IndexFunc_byte_byte v0 f1 fn1 cp1 he1 hf1 _ hx_2) ?_)
  refine xs 8 rfl (sf_geq (a := x_1) (b := (0 : Int)) rfl rfl rfl ?_)
  refine xz 4 (pB (decide ((0 : Int) ≤ x_1))) ?_
  refine QW.ret zL ?_
  obtain rfl := sO h
  exact Ends.one (.inr rfl) rfl (ResIs.tmp rfl) rfl rfl
noncomputable def g_nib_Right_1 (c0 : UInt8) : Option Bool :=
    some (decide ((15 : Int) < (c0.toNat : Int)))
theorem sim_nib_Right_1 (c0 : UInt8) (r : Bool) (h : g_nib_Right_1 c0 = some r) : Fun Try.prog 148 [.val (.int .u8 (c0.toNat : Int))] (.val (.bool r)) := by
  refine Fun.of_bodyQ Try.func148 rfl (by simp [Try.ntmps148]) ?_
  rw [Try.ntmps148, TT.res_148]
  refine QW.view (s' := ⟨tab [(0, .d (.val (.int .u8 (c0.toNat : Int))))], tabH [], 0, []⟩) (View.init (by rfl)) zL ?_
  unfold g_nib_Right_1 at h
  refine sR ?_
  refine xz 2 (pB false) ?_
  refine sR ?_
  refine xm 3 (.d (.val (.int .u8 (c0.toNat : Int)))) ?_
  refine xs 4 rfl (sf_gtr (a := (c0.toNat : Int)) (b := (15 : Int)) rfl rfl rfl ?_)
  refine xz 2 (pB (decide ((15 : Int) < (c0.toNat : Int)))) ?_
  refine QW.ret zL ?_
  obtain rfl := sO h
  exact Ends.one (.inr rfl) rfl (ResIs.tmp rfl) rfl rfl
noncomputable def g_nib_Right (p0 : (List UInt8)) : Option Bool :=
    ((g_slices_ContainsFunc_byte_byte p0 (fun y0 => g_nib_Right_1 y0)).bind fun (x_1 : Bool) =>
    some (!x_1))
theorem sim_nib_Right (p0 : (List UInt8)) (r : Bool) (h : g_nib_Right p0 = some r) : Fun Try.prog 103 [.slice (p0.map byteD)] (.val (.bool r)) := by
  refine Fun.of_bodyQ Try.func103 rfl (by simp [Try.ntmps103]) ?_
  rw [Try.ntmps103, TT.res_103]
  refine QW.view (s' := ⟨tab [(0, .d (.slice (p0.map byteD)))], tabH [], 0, []⟩) (View.init (by rfl)) zL ?_
  unfold g_nib_Right at h
  refine sR ?_
  refine xz 2 (pB false) ?_
  refine sR ?_
  refine xm 3 (.d (.slice (p0.map byteD))) ?_
  obtain ⟨x_1, hx_2, h⟩ := bO h
  refine xs 4 rfl (sf_call rfl rfl TT.enters_147 rfl (sim_slices_ContainsFunc_byte_byte p0 (fun y0 => g_nib_Right_1 y0) 148 [] TT.enters_148 (fun y0 _ h => sim_nib_Right_1 y0 _ h) _ hx_2) ?_)
  refine xs 5 rfl (sf_not rfl rfl ?_)
  refine xz 2 (pB (!x_1)) ?_
  refine QW.ret zL ?_
  obtain rfl := sO h
  exact Ends.one (.inr rfl) rfl (ResIs.tmp rfl) rfl rfl
inductive C_nib_Join where
  | S
  | L1 (v3 : (List UInt8)) (v8 : Int)
noncomputable def step_nib_Join (parts0 : (List (List UInt8))) : C_nib_Join → Option (C_nib_Join ⊕ (List UInt8))
  | .S =>
    some (.inl (.L1 ([] : (List UInt8)) (0)))
  | .L1 v3 v8 =>
    (bif (decide (v8 < (parts0.length : Int))) then
    gO (0 ≤ v8 ∧ v8 < (parts0.length : Int)) (
    gO ((v3.length + (idx parts0 v8).length) * 1 ≤ 140737488355328) (
    gO (inI (v8 + (1 : Int))) (
    some (.inl (.L1 (v3 ++ (idx parts0 v8)) (v8 + (1 : Int)))))))
    else
    some (.inr v3))
noncomputable def g_nib_Join (parts0 : (List (List UInt8))) : Option (List UInt8) := theC (step_nib_Join parts0) .S
theorem sim_nib_Join (parts0 : (List (List UInt8))) (r : (List UInt8)) (h : g_nib_Join parts0 = some r) : Fun Try.prog 144 [.slice (parts0.map (eL byteD))] (.slice (r.map byteD)) := by
  refine Fun.of_bodyQ Try.func144 rfl (by simp [Try.ntmps144]) ?_
  rw [Try.ntmps144, TT.res_144]
  refine QW.view (s' := ⟨tab [(0, .d (.slice (parts0.map (eL byteD))))], tabH [], 0, []⟩) (View.init (by rfl)) zL ?_
  replace h := theC_get h
  obtain ⟨_, h⟩ := h
  obtain ⟨k_0, rfl, h9⟩ := run_succ h; replace h := h9; clear h9; rw [step_nib_Join] at h
  refine sR ?_
  refine xz 2 (.full (([] : (List UInt8)).map byteD)) ?_
  refine sR ?_
  refine xz 3 (.full (([] : (List UInt8)).map byteD)) ?_
  refine QW.seq ?_
  refine sR ?_
  refine xm 6 (.d (.slice (parts0.map (eL byteD)))) ?_
  refine xs 7 rfl (sf_lenL (en := (eL byteD)) (l := parts0) rfl TT.under_191 rfl ?_)
  refine xm 8 (pI (0)) ?_
  refine XK.nz ?_
  refine QW.block ?_
  refine QW.loop (fun k σ => ∃ v3 : (List UInt8), ∃ v8 : Int, k ≤ k_0 ∧ run (step_nib_Join parts0) k (.L1 v3 v8) = some r ∧ σ = ⟨tab [(3, .own 0 (v3.map byteD)), (6, .d (.slice (parts0.map (eL byteD)))), (7, pI (parts0.length : Int)), (8, pI v8)], tabH [.spare 1 v3.length], 1, []⟩) k_0 zL ⟨⟨tab [(3, .own 0 (([] : (List UInt8)).map byteD)), (6, .d (.slice (parts0.map (eL byteD)))), (7, pI (parts0.length : Int)), (8, pI (0))], tabH [.spare 1 ([] : (List UInt8)).length], 1, []⟩, View.trans (View.buf 3 1 rfl zL) (View.mk 1 [0] _ _ _ rfl rfl (by decide) (iC (iC (iC (iC trivial)))) (And.intro rfl trivial) rfl zL rfl), ([] : (List UInt8)), 0, Nat.le_refl _, jG h, rfl⟩ ?_
  rintro k_1s _ ⟨v3, v8, k_1h, h, rfl⟩
  obtain ⟨k_1, rfl, h9⟩ := run_succ h; replace h := h9; clear h9; rw [step_nib_Join] at h
  refine sR ?_
  refine xs 9 rfl (sf_lss (a := v8) (b := (parts0.length : Int)) rfl rfl rfl ?_)
  refine XK.nz ?_
  refine QW.seq ?_
  refine QW.cond (t := (decide (v8 < (parts0.length : Int)))) rfl zL (fun hb_2 => ?_) (fun hb_2 => ?_)
  · replace h := bGT h hb_2
    refine QW.skip zL (nrm ?_)
    refine QW.seq ?_
    refine QW.block ?_
    refine sR ?_
    obtain ⟨c_3, h⟩ := gG h
    refine xs 10 rfl (sf_idxA (l := parts0) (i := v8) rfl TT.slcA_191 lay_L rfl rfl c_3 ?_)
    refine xs 11 rfl (sf_ldC (d := .slice ((idx parts0 v8).map byteD)) rfl TT.tyA_49 rfl (LdC.one) ?_)
    refine xz 5 (.d (.slice ((idx parts0 v8).map byteD))) ?_
    refine rG ?_
    refine xm 12 (.own 0 (v3.map byteD)) ?_
    refine xm 13 (.d (.slice ((idx parts0 v8).map byteD))) ?_
    obtain ⟨c_4, h⟩ := gG h
    refine xs 14 rfl (sf_appO (en := byteD) (l := v3) (l2 := (idx parts0 v8)) rfl TT.rowA_49 TT.under_49 rfl lay_byte rfl rfl rfl c_4 (by decide) ?_)
    refine xa 3 (.own 1 ((v3 ++ (idx parts0 v8)).map byteD)) ?_
    refine XK.nil (blN (nrm ?_))
    refine rG ?_
    obtain ⟨c_5, h⟩ := gG h
    refine xs 15 rfl (sf_add (a := v8) (b := (1 : Int)) rfl rfl rfl c_5 ?_)
    refine xm 8 (pI (v8 + (1 : Int))) ?_
    refine XK.nz ?_
    exact ⟨k_1, by omega, ⟨tab [(3, .own 0 ((v3 ++ (idx parts0 v8)).map byteD)), (6, .d (.slice (parts0.map (eL byteD)))), (7, pI (parts0.length : Int)), (8, pI (v8 + (1 : Int)))], tabH [.spare 1 (v3 ++ (idx parts0 v8)).length], 1, []⟩, View.mk 1 [1] _ _ _ rfl rfl (by decide) (iC (iC (iC (iC trivial)))) (And.intro rfl trivial) rfl zL rfl, (v3 ++ (idx parts0 v8)), (v8 + (1 : Int)), by omega, jG h, rfl⟩
  · replace h := bGF h hb_2
    refine QW.exit zL (thX (thX (exE (nrm ?_))))
    refine sR ?_
    refine xm 16 (.own 0 (v3.map byteD)) ?_
    refine xz 2 (.own 0 (v3.map byteD)) ?_
    refine QW.ret zL ?_
    obtain rfl := sG h
    exact Ends.one (.inr rfl) rfl (ResIs.tmp rfl) rfl rfl
inductive C_nib_pairs where
  | S
  | L1 (v3 : (List UInt8)) (v4 : Int)
noncomputable def step_nib_pairs (p0 : (List UInt8)) : C_nib_pairs → Option (C_nib_pairs ⊕ (List UInt8))
  | .S =>
    some (.inl (.L1 ([] : (List UInt8)) (0)))
  | .L1 v3 v4 =>
    gO (inI (v4 + (1 : Int))) (
    (bif (decide ((v4 + (1 : Int)) < (p0.length : Int))) then
    gO (0 ≤ v4 ∧ v4 < (p0.length : Int)) (
    gO (inI (v4 + (1 : Int))) (
    gO (0 ≤ (v4 + (1 : Int)) ∧ (v4 + (1 : Int)) < (p0.length : Int)) (
    gO ((v3.length + ([((u8shl (idx p0 v4) (4 : Int)) ||| (idx p0 (v4 + (1 : Int))))] : List UInt8).length) * 1 ≤ 140737488355328) (
    gO (inI (v4 + (2 : Int))) (
    some (.inl (.L1 (v3 ++ ([((u8shl (idx p0 v4) (4 : Int)) ||| (idx p0 (v4 + (1 : Int))))] : List UInt8)) (v4 + (2 : Int)))))))))
    else
    some (.inr v3)))
noncomputable def g_nib_pairs (p0 : (List UInt8)) : Option (List UInt8) := theC (step_nib_pairs p0) .S
theorem sim_nib_pairs (p0 : (List UInt8)) (r : (List UInt8)) (h : g_nib_pairs p0 = some r) : Fun Try.prog 143 [.slice (p0.map byteD)] (.slice (r.map byteD)) := by
  refine Fun.of_bodyQ Try.func143 rfl (by simp [Try.ntmps143]) ?_
  rw [Try.ntmps143, TT.res_143]
  refine QW.view (s' := ⟨tab [(0, .d (.slice (p0.map byteD)))], tabH [], 0, []⟩) (View.init (by rfl)) zL ?_
  replace h := theC_get h
  obtain ⟨_, h⟩ := h
  obtain ⟨k_0, rfl, h9⟩ := run_succ h; replace h := h9; clear h9; rw [step_nib_pairs] at h
  refine sR ?_
  refine xz 2 (.full (([] : (List UInt8)).map byteD)) ?_
  refine sR ?_
  refine xz 3 (.full (([] : (List UInt8)).map byteD)) ?_
  refine QW.seq ?_
  refine sR ?_
  refine xz 4 (pI (0)) ?_
  refine QW.block ?_
  refine QW.loop (fun k σ => ∃ v3 : (List UInt8), ∃ v4 : Int, k ≤ k_0 ∧ run (step_nib_pairs p0) k (.L1 v3 v4) = some r ∧ σ = ⟨tab [(0, .d (.slice (p0.map byteD))), (3, .own 0 (v3.map byteD)), (4, pI v4)], tabH [.spare 1 v3.length], 1, []⟩) k_0 zL ⟨⟨tab [(0, .d (.slice (p0.map byteD))), (3, .own 0 (([] : (List UInt8)).map byteD)), (4, pI (0))], tabH [.spare 1 ([] : (List UInt8)).length], 1, []⟩, View.trans (View.buf 3 1 rfl zL) (View.mk 1 [0] _ _ _ rfl rfl (by decide) (iC (iC (iC trivial))) (And.intro rfl trivial) rfl zL rfl), ([] : (List UInt8)), 0, Nat.le_refl _, jG h, rfl⟩ ?_
  rintro k_1s _ ⟨v3, v4, k_1h, h, rfl⟩
  obtain ⟨k_1, rfl, h9⟩ := run_succ h; replace h := h9; clear h9; rw [step_nib_pairs] at h
  refine QW.seq ?_
  refine sR ?_
  refine xm 5 (pI v4) ?_
  obtain ⟨c_2, h⟩ := gG h
  refine xs 6 rfl (sf_add (a := v4) (b := (1 : Int)) rfl rfl rfl c_2 ?_)
  refine xm 7 (.d (.slice (p0.map byteD))) ?_
  refine xs 8 rfl (sf_lenL (en := byteD) (l := p0) rfl TT.under_49 rfl ?_)
  refine xs 9 rfl (sf_lss (a := (v4 + (1 : Int))) (b := (p0.length : Int)) rfl rfl rfl ?_)
  refine XK.nz ?_
  refine QW.cond (t := (decide ((v4 + (1 : Int)) < (p0.length : Int)))) rfl zL (fun hb_3 => ?_) (fun hb_3 => ?_)
  · replace h := bGT h hb_3
    refine QW.skip zL (nrm ?_)
    refine QW.seq ?_
    refine QW.block ?_
    refine QW.region zL (PW.regK (id := 5) mixedX (M := _) rfl (by kernel_rfl) ?_)
    refine RK.st (some 12) rfl rfl (sf_move (v := .own 0 (v3.map byteD)) rfl rfl ?_)
    refine RK.st (some 13) rfl rfl (sf_move (v := .d (.slice (p0.map byteD))) rfl rfl ?_)
    refine RK.st (some 14) rfl rfl (sf_move (v := pI v4) rfl rfl ?_)
    obtain ⟨c_4, h⟩ := gG h
    refine RK.st (some 15) rfl rfl (sf_idxA (l := p0) (i := v4) rfl TT.slcA_49 lay_byte rfl rfl c_4 ?_)
    refine RK.st (some 16) rfl rfl (sf_ldC (d := .val (.int .u8 ((idx p0 v4).toNat : Int))) rfl TT.tyA_5 rfl (LdC.one) ?_)
    refine RK.st (some 17) rfl rfl (sf_u8shl (p := (idx p0 v4)) (c := (4 : Int)) rfl rfl rfl (by decide) ?_)
    refine RK.st (some 18) rfl rfl (sf_move (v := .d (.slice (p0.map byteD))) rfl rfl ?_)
    refine RK.st (some 19) rfl rfl (sf_move (v := pI v4) rfl rfl ?_)
    obtain ⟨c_5, h⟩ := gG h
    refine RK.st (some 20) rfl rfl (sf_add (a := v4) (b := (1 : Int)) rfl rfl rfl c_5 ?_)
    obtain ⟨c_6, h⟩ := gG h
    refine RK.st (some 21) rfl rfl (sf_idxA (l := p0) (i := (v4 + (1 : Int))) rfl TT.slcA_49 lay_byte rfl rfl c_6 ?_)
    refine RK.st (some 22) rfl rfl (sf_ldC (d := .val (.int .u8 ((idx p0 (v4 + (1 : Int))).toNat : Int))) rfl TT.tyA_5 rfl (LdC.one) ?_)
    refine RK.st (some 23) rfl rfl (sf_u8or (p := (u8shl (idx p0 v4) (4 : Int))) (q := (idx p0 (v4 + (1 : Int)))) rfl rfl rfl ?_)
    refine RK.st (some 24) rfl rfl (sf_row (en := byteD) (l := ([((u8shl (idx p0 v4) (4 : Int)) ||| (idx p0 (v4 + (1 : Int))))] : List UInt8)) rfl TT.rowA_49 lay_byte rfl rfl (by decide) (by simp [solids, partsP, evP, ofVal, PV.solid, putS_at, tab, unS, unT, unC, asCond, Value.oneCell']) ?_)
    obtain ⟨c_7, h⟩ := gG h
    refine RK.st (some 25) rfl rfl (sf_appO (en := byteD) (l := v3) (l2 := ([((u8shl (idx p0 v4) (4 : Int)) ||| (idx p0 (v4 + (1 : Int))))] : List UInt8)) rfl TT.rowA_49 TT.under_49 rfl lay_byte rfl rfl rfl c_7 (by decide) ?_)
    refine RK.st (some 3) rfl rfl (sf_assign (v := .own 1 ((v3 ++ ([((u8shl (idx p0 v4) (4 : Int)) ||| (idx p0 (v4 + (1 : Int))))] : List UInt8)).map byteD)) rfl rfl ?_)
    refine RK.nil ⟨RecsOK.last 13 (by simp) (by simp) (by rfl), (blN (nrm ?_))⟩
    refine QW.view (s' := ⟨tab [(0, .d (.slice (p0.map byteD))), (3, .own 0 ((v3 ++ ([((u8shl (idx p0 v4) (4 : Int)) ||| (idx p0 (v4 + (1 : Int))))] : List UInt8)).map byteD)), (4, pI v4)], tabH [.spare 1 (v3 ++ ([((u8shl (idx p0 v4) (4 : Int)) ||| (idx p0 (v4 + (1 : Int))))] : List UInt8)).length], 1, []⟩) (View.mk 1 [1] _ _ _ rfl rfl (by decide) (iC (iC (iC trivial))) (And.intro rfl trivial) rfl zL rfl) zL ?_
    refine rG ?_
    refine xm 10 (pI v4) ?_
    obtain ⟨c_8, h⟩ := gG h
    refine xs 11 rfl (sf_add (a := v4) (b := (2 : Int)) rfl rfl rfl c_8 ?_)
    refine xz 4 (pI (v4 + (2 : Int))) ?_
    exact ⟨k_1, by omega, ⟨tab [(0, .d (.slice (p0.map byteD))), (3, .own 0 ((v3 ++ ([((u8shl (idx p0 v4) (4 : Int)) ||| (idx p0 (v4 + (1 : Int))))] : List UInt8)).map byteD)), (4, pI (v4 + (2 : Int)))], tabH [.spare 1 (v3 ++ ([((u8shl (idx p0 v4) (4 : Int)) ||| (idx p0 (v4 + (1 : Int))))] : List UInt8)).length], 1, []⟩, View.mk 1 [0] _ _ _ rfl rfl (by decide) (iC (iC (iC trivial))) (And.intro rfl trivial) rfl zL rfl, (v3 ++ ([((u8shl (idx p0 v4) (4 : Int)) ||| (idx p0 (v4 + (1 : Int))))] : List UInt8)), (v4 + (2 : Int)), by omega, jG h, rfl⟩
  · replace h := bGF h hb_3
    refine QW.exit zL (thX (thX (exE (nrm ?_))))
    refine sR ?_
    refine xm 26 (.own 0 (v3.map byteD)) ?_
    refine xz 2 (.own 0 (v3.map byteD)) ?_
    refine QW.ret zL ?_
    obtain rfl := sG h
    exact Ends.one (.inr rfl) rfl (ResIs.tmp rfl) rfl rfl
noncomputable def g_nib_Pack (p0 : (List UInt8)) (leaf1 : Bool) : Option ((List UInt8) × Int) :=
    ((g_nib_Right p0).bind fun (x_1 : Bool) =>
    (bif ((!x_1) || (decide ((64 : Int) < (p0.length : Int)))) then
    some (([] : List UInt8), 2)
    else
    (((bif leaf1 then
    some (2 : UInt8)
    else
    some (0 : UInt8)) : Option UInt8).bind fun (v6 : UInt8) =>
    (bif (decide (((p0.length : Int).tmod (2 : Int)) = (1 : Int))) then
    ((g_nib_Join ([([(v6 + (1 : UInt8))] : List UInt8), p0] : List (List UInt8))).bind fun (x_6 : (List UInt8)) =>
    ((g_nib_pairs x_6).bind fun (x_8 : (List UInt8)) =>
    some (x_8, 0)))
    else
    ((g_nib_Join ([([v6, (0 : UInt8)] : List UInt8), p0] : List (List UInt8))).bind fun (x_10 : (List UInt8)) =>
    ((g_nib_pairs x_10).bind fun (x_12 : (List UInt8)) =>
    some (x_12, 0)))))))
theorem sim_nib_Pack (p0 : (List UInt8)) (leaf1 : Bool) (r : ((List UInt8) × Int)) (h : g_nib_Pack p0 leaf1 = some r) : Fun Try.prog 94 [.slice (p0.map byteD), .val (.bool leaf1)] (.tuple [.val (sV (r.1)), .val (.int .i64 (r.2))]) := by
  refine Fun.of_bodyQ Try.func94 rfl (by simp [Try.ntmps94]) ?_
  rw [Try.ntmps94, TT.res_94]
  refine QW.view (s' := ⟨tab [(0, .d (.slice (p0.map byteD))), (1, pB leaf1)], tabH [], 0, []⟩) (View.init (by rfl)) zL ?_
  unfold g_nib_Pack at h
  refine sR ?_
  refine xa 4 (pS ([] : List UInt8)) ?_
  refine xz 5 (pI (0)) ?_
  refine QW.seq ?_
  refine sR ?_
  refine xm 7 (.d (.slice (p0.map byteD))) ?_
  obtain ⟨x_1, hx_2, h⟩ := bO h
  refine xs 8 rfl (sf_call rfl rfl TT.enters_103 rfl (sim_nib_Right p0 _ hx_2) ?_)
  refine xs 9 rfl (sf_not rfl rfl ?_)
  refine xm 10 (pB (!x_1)) ?_
  refine xg 11 (.d (.slice (p0.map byteD))) rfl rfl (fun hg => sf_move (v := .d (.slice (p0.map byteD))) rfl rfl g3) ?_
  refine xg 12 (pI (p0.length : Int)) rfl rfl (fun hg => sf_lenL (en := byteD) (l := p0) rfl TT.under_49 rfl g3) ?_
  refine xg 13 (pB (decide ((64 : Int) < (p0.length : Int)))) rfl rfl (fun hg => sf_gtr (a := (p0.length : Int)) (b := (64 : Int)) rfl rfl rfl g3) ?_
  refine xs 14 rfl (sf_pickO rfl rfl rfl rfl (fun _ => rfl) (fun hb => by rw [hb]; rfl) ?_)
  refine XK.nz ?_
  refine QW.cond (t := ((!x_1) || (decide ((64 : Int) < (p0.length : Int))))) rfl zL (fun hb_3 => ?_) (fun hb_3 => ?_)
  · replace h := bT h hb_3
    refine sR ?_
    refine xa 4 (pS ([] : List UInt8)) ?_
    refine xz 5 (pI (2)) ?_
    refine QW.ret zL (thR ?_)
    obtain rfl := sO h
    exact Ends.more (.inr rfl) rfl (ps := [pS ([] : List UInt8), pI (2)]) (And.intro (ResIs.tmp rfl) (And.intro (ResIs.tmp rfl) trivial)) rfl rfl
  · replace h := bF h hb_3
    refine QW.skip zL (nrm ?_)
    refine sR ?_
    refine xz 6 (.d (.val (.int .u8 ((0 : UInt8).toNat : Int)))) ?_
    obtain ⟨v6, hq, h⟩ := bO h
    refine QW.seqI (fun s' => s' = ⟨tab [(0, .d (.slice (p0.map byteD))), (6, .d (.val (.int .u8 (v6.toNat : Int))))], tabH [], 0, []⟩) ?_ ?_
    · replace h := hq; clear hq
      refine sR ?_
      refine xm 15 (pB leaf1) ?_
      refine XK.nz ?_
      refine QW.cond (t := leaf1) rfl zL (fun hb_4 => ?_) (fun hb_4 => ?_)
      · replace h := bT h hb_4
        refine rG ?_
        refine xz 6 (.d (.val (.int .u8 ((2 : UInt8).toNat : Int)))) ?_
        obtain rfl := sO h
        exact ⟨⟨tab [(0, .d (.slice (p0.map byteD))), (6, .d (.val (.int .u8 ((2 : UInt8).toNat : Int))))], tabH [], 0, []⟩, View.mk 0 [] _ _ _ rfl rfl (by decide) (iC (iC trivial)) trivial rfl zL rfl, rfl⟩
      · replace h := bF h hb_4
        refine QW.skip zL (nrm ?_)
        obtain rfl := sO h
        exact ⟨⟨tab [(0, .d (.slice (p0.map byteD))), (6, .d (.val (.int .u8 ((0 : UInt8).toNat : Int))))], tabH [], 0, []⟩, View.mk 0 [] _ _ _ rfl rfl (by decide) (iC (iC trivial)) trivial rfl zL rfl, rfl⟩
    · rintro _ rfl
      refine QW.seq ?_
      refine sR ?_
      refine xm 16 (.d (.slice (p0.map byteD))) ?_
      refine xs 17 rfl (sf_lenL (en := byteD) (l := p0) rfl TT.under_49 rfl ?_)
      refine xs 18 rfl (sf_rem (a := (p0.length : Int)) (b := (2 : Int)) rfl rfl rfl (by decide) ?_)
      refine xs 19 rfl (sf_eq (a := ((p0.length : Int).tmod (2 : Int))) (b := (1 : Int)) rfl rfl rfl ?_)
      refine XK.nz ?_
      refine QW.cond (t := (decide (((p0.length : Int).tmod (2 : Int)) = (1 : Int)))) rfl zL (fun hb_5 => ?_) (fun hb_5 => ?_)
      · replace h := bT h hb_5
        refine sR ?_
        refine xm 20 (.d (.val (.int .u8 (v6.toNat : Int)))) ?_
        refine xs 21 rfl (sf_u8add (p := v6) (q := (1 : UInt8)) rfl rfl rfl ?_)
        refine xs 22 rfl (sf_row (en := byteD) (l := ([(v6 + (1 : UInt8))] : List UInt8)) rfl TT.rowA_49 lay_byte rfl rfl (by decide) (by simp [solids, partsP, evP, ofVal, PV.solid, putS_at, tab, unS, unT, unC, asCond, Value.oneCell']) ?_)
        refine xm 23 (.d (.slice (p0.map byteD))) ?_
        refine xs 24 rfl (sf_row (en := (eL byteD)) (l := ([([(v6 + (1 : UInt8))] : List UInt8), p0] : List (List UInt8))) rfl TT.rowA_191 lay_L rfl rfl (by decide) (by simp [solids, partsP, evP, ofVal, PV.solid, putS_at, tab, unS, unT, unC, asCond, Value.oneCell']) ?_)
        obtain ⟨x_6, hx_7, h⟩ := bO h
        refine xs 25 rfl (sf_call rfl rfl TT.enters_144 rfl (sim_nib_Join ([([(v6 + (1 : UInt8))] : List UInt8), p0] : List (List UInt8)) _ hx_7) ?_)
        obtain ⟨x_8, hx_9, h⟩ := bO h
        refine xs 26 rfl (sf_call rfl rfl TT.enters_143 rfl (sim_nib_pairs x_6 _ hx_9) ?_)
        refine xs 27 rfl (sf_b2s (l := x_8) rfl TT.under_49 TT.under_5 TT.under_9 rfl ?_)
        refine xa 4 (pS x_8) ?_
        refine xz 5 (pI (0)) ?_
        refine QW.ret zL (thR ?_)
        obtain rfl := sO h
        exact Ends.more (.inr rfl) rfl (ps := [pS x_8, pI (0)]) (And.intro (ResIs.tmp rfl) (And.intro (ResIs.tmp rfl) trivial)) rfl rfl
      · replace h := bF h hb_5
        refine QW.skip zL (nrm ?_)
        refine sR ?_
        refine xm 28 (.d (.val (.int .u8 (v6.toNat : Int)))) ?_
        refine xs 29 rfl (sf_row (en := byteD) (l := ([v6, (0 : UInt8)] : List UInt8)) rfl TT.rowA_49 lay_byte rfl rfl (by decide) (by simp [solids, partsP, evP, ofVal, PV.solid, putS_at, tab, unS, unT, unC, asCond, Value.oneCell']) ?_)
        refine xm 30 (.d (.slice (p0.map byteD))) ?_
        refine xs 31 rfl (sf_row (en := (eL byteD)) (l := ([([v6, (0 : UInt8)] : List UInt8), p0] : List (List UInt8))) rfl TT.rowA_191 lay_L rfl rfl (by decide) (by simp [solids, partsP, evP, ofVal, PV.solid, putS_at, tab, unS, unT, unC, asCond, Value.oneCell']) ?_)
        obtain ⟨x_10, hx_11, h⟩ := bO h
        refine xs 32 rfl (sf_call rfl rfl TT.enters_144 rfl (sim_nib_Join ([([v6, (0 : UInt8)] : List UInt8), p0] : List (List UInt8)) _ hx_11) ?_)
        obtain ⟨x_12, hx_13, h⟩ := bO h
        refine xs 33 rfl (sf_call rfl rfl TT.enters_143 rfl (sim_nib_pairs x_10 _ hx_13) ?_)
        refine xs 34 rfl (sf_b2s (l := x_12) rfl TT.under_49 TT.under_5 TT.under_9 rfl ?_)
        refine xa 4 (pS x_12) ?_
        refine xz 5 (pI (0)) ?_
        refine QW.ret zL ?_
        obtain rfl := sO h
        exact Ends.more (.inr rfl) rfl (ps := [pS x_12, pI (0)]) (And.intro (ResIs.tmp rfl) (And.intro (ResIs.tmp rfl) trivial)) rfl rfl
noncomputable def g_rlp_List (l0 : (List Item)) : Option Item :=
    gO ((([] : (List Item)).length + l0.length) * 48 ≤ 140737488355328) (
    some (⟨true, ([] : List UInt8), (([] : (List Item)) ++ l0)⟩ : Item))
theorem sim_rlp_List (l0 : (List Item)) (r : Item) (h : g_rlp_List l0 = some r) : Fun Try.prog 96 [.slice (l0.map eItem)] (.agg (cItem r)) := by
  refine Fun.of_bodyQ Try.func96 rfl (by simp [Try.ntmps96]) ?_
  rw [Try.ntmps96, TT.res_96]
  refine QW.view (s' := ⟨tab [(0, .d (.slice (l0.map eItem)))], tabH [], 0, []⟩) (View.init (by rfl)) zL ?_
  unfold g_rlp_List at h
  refine sR ?_
  refine xs 2 rfl (sf_alloc (l := [pB false, pS ([] : List UInt8), .full (([] : (List Item)).map eItem)]) rfl TT.zeroA_125 rfl rfl ?_)
  refine XK.nz ?_
  refine sR ?_
  refine xm 3 (.d (.slice (l0.map eItem))) ?_
  obtain ⟨c_1, h⟩ := gO_get h
  refine xs 4 rfl (sf_appF (en := eItem) (l := ([] : (List Item))) (l2 := l0) rfl TT.rowA_123 TT.under_123 rfl lay_Item rfl rfl ⟨c_1, fun _ => rfl⟩ (by decide) ?_)
  refine xs 5 rfl (sf_bld (v := .agg [pB true, pS ([] : List UInt8), .own 1 ((([] : (List Item)) ++ l0).map eItem)]) rfl TT.bldA_125 (build_of rfl (fill_step (cells' := [pB true, pS ([] : List UInt8), .full (([] : (List Item)).map eItem)]) rfl rfl rfl bL rfl (fill_step (cells' := [pB true, pS ([] : List UInt8), .own 1 ((([] : (List Item)) ++ l0).map eItem)]) rfl rfl rfl bL rfl fill_nil))) ?_)
  refine XK.st none rfl rfl (sf_stV (l' := [pB true, pS ([] : List UInt8), .own 1 ((([] : (List Item)) ++ l0).map eItem)]) rfl TT.tyA_125 rfl rfl rfl rfl rfl rfl (by simp) rfl ?_)
  refine XK.nz ?_
  refine QW.ret zL ?_
  obtain rfl := sO h
  exact Ends.one (.inr rfl) rfl (ResIs.cell rfl rfl TT.tyA_125 ⟨⟨by simp, by simp⟩, rfl⟩) rfl rfl
end Go.Proofs.Ytoeppofkmcdknaa.K
