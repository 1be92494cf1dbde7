/- What the structs of the program are in Lean, and how they lie in cells. -/
import Derived.Test.YtonlehebfeilmaaRows
import Derived.Test.YtonlehebfeilmaaK36
import Derived.KernelRfl
namespace Go.Proofs.Ytonlehebfeilmaa.K
open Go Go.RowKit
set_option linter.unusedSimpArgs false
set_option linter.unusedVariables false
theorem mixedX : Try.prog.follows .mixedOrders = true := by kernel_rfl
structure Item where
  fList : Bool
  fS : (List UInt8)
  fL : (List Item)
instance : Inhabited Item := ⟨⟨default, default, []⟩⟩
mutual
def eItem : Item → D
  | ⟨x0, x1, x2⟩ => .agg [.val (.bool x0), .val (sV x1), .slice (eItems x2)]
def eItems : List Item → List D
  | [] => []
  | x :: r => eItem x :: eItems r
end
theorem eItems_map : ∀ l : List Item, eItems l = l.map eItem
  | [] => by simp [eItems]
  | x :: r => by simp [eItems, eItems_map r]
def cItem (x : Item) : List D := ([.val (.bool (x.fList)), .val (sV (x.fS)), .slice ((x.fL).map eItem)])
theorem eItem_eq (x : Item) : eItem x = .agg (cItem x) := by
  cases x; simp [eItem, cItem, eItems_map]
theorem lay_Item : Lay eItem cItem 3 := ⟨fun x => by rw [eItem_eq]; rfl, fun _ => rfl⟩
structure counter where
  fn : Int
  deriving Inhabited
def ccounter (x : counter) : List D := [.val (.int .i64 (x.fn))]
def ecounter (x : counter) : D := .agg (ccounter x)
theorem ecounter_eq (x : counter) : ecounter x = .agg (ccounter x) := rfl
theorem lay_counter : Lay ecounter ccounter 1 := ⟨fun _ => rfl, fun _ => rfl⟩
structure fail where
  fe : Int
  deriving Inhabited
def cfail (x : fail) : List D := [.val (.int .i64 (x.fe))]
def efail (x : fail) : D := .agg (cfail x)
theorem efail_eq (x : fail) : efail x = .agg (cfail x) := rfl
theorem lay_fail : Lay efail cfail 1 := ⟨fun _ => rfl, fun _ => rfl⟩
structure Four where
  fN : Int
  fList : Bool
  fA : Item
  fB : Item
  deriving Inhabited
def cFour (x : Four) : List D := ([.val (.int .i64 (x.fN)), .val (.bool (x.fList)), .val (.bool ((x.fA).fList)), .val (sV ((x.fA).fS)), .slice (((x.fA).fL).map eItem), .val (.bool ((x.fB).fList)), .val (sV ((x.fB).fS)), .slice (((x.fB).fL).map eItem)])
def eFour (x : Four) : D := .agg (cFour x)
theorem eFour_eq (x : Four) : eFour x = .agg (cFour x) := rfl
theorem lay_Four : Lay eFour cFour 8 := ⟨fun _ => rfl, fun _ => rfl⟩
structure Link where
  fEpoch : Int
  fProof : (List (List UInt8))
  deriving Inhabited
def cLink (x : Link) : List D := ([.val (.int .i64 (x.fEpoch)), .slice ((x.fProof).map eS)])
def eLink (x : Link) : D := .agg (cLink x)
theorem eLink_eq (x : Link) : eLink x = .agg (cLink x) := rfl
theorem lay_Link : Lay eLink cLink 2 := ⟨fun _ => rfl, fun _ => rfl⟩
structure Witness where
  fKey : (Arr 32 UInt8)
  fLinks : (List Link)
  deriving Inhabited
def cWitness (x : Witness) : List D := ((x.fKey).1.map byteD) ++ ([.slice ((x.fLinks).map eLink)])
def eWitness (x : Witness) : D := .agg (cWitness x)
theorem eWitness_eq (x : Witness) : eWitness x = .agg (cWitness x) := rfl
theorem lay_Witness : Lay eWitness cWitness 33 := ⟨fun _ => rfl, fun x => by simp [cWitness, x.fKey.2]⟩
theorem ldc_Witness_0 (x : Witness) : LdC true 32 ((cWitness x).drop 0) (.agg ((x.fKey).1.map byteD)) := ldc_first (show ((x.fKey).1.map byteD).length = 32 by rw [List.length_map, x.fKey.2])
theorem pre_Witness_0 (x : Witness) : Pre ((cWitness x).drop 0) byteD x.fKey := pre_first
theorem spl_Witness_0 (x : Witness) (v : (Arr 32 UInt8)) : spl ((cWitness x).map PV.d) 0 ((v.1.map byteD).map PV.d) = (cWitness { x with fKey := v }).map PV.d := spl_first (show ((x.fKey).1.map byteD).length = 32 by rw [List.length_map, x.fKey.2]) (show (v.1.map byteD).length = 32 by rw [List.length_map, v.2])
theorem ldc_Witness_1 (x : Witness) : LdC false 1 ((cWitness x).drop 32) (.slice ((x.fLinks).map eLink)) := ldc_skip 32 0 (show ((x.fKey).1.map byteD).length = 32 by rw [List.length_map, x.fKey.2]) (LdC.one)
theorem spl_Witness_1 (x : Witness) (v : (List Link)) : spl ((cWitness x).map PV.d) 32 [PV.d (.slice (v.map eLink))] = (cWitness { x with fLinks := v }).map PV.d := spl_skip 32 0 (show ((x.fKey).1.map byteD).length = 32 by rw [List.length_map, x.fKey.2]) rfl
theorem flat_Witness (x : Witness) : ∀ d ∈ cWitness x, d.flat = true := (flat_app (flat_arr _ (fun _ => rfl)) (flat_cons rfl flat_nil))
structure Pair where
  fKey : (Arr 32 UInt8)
  fValue : (List UInt8)
  deriving Inhabited
def cPair (x : Pair) : List D := ((x.fKey).1.map byteD) ++ [.val (sV (x.fValue))]
def ePair (x : Pair) : D := .agg (cPair x)
theorem ePair_eq (x : Pair) : ePair x = .agg (cPair x) := rfl
theorem lay_Pair : Lay ePair cPair 33 := ⟨fun _ => rfl, fun x => by simp [cPair, x.fKey.2]⟩
theorem ldc_Pair_0 (x : Pair) : LdC true 32 ((cPair x).drop 0) (.agg ((x.fKey).1.map byteD)) := ldc_first (show ((x.fKey).1.map byteD).length = 32 by rw [List.length_map, x.fKey.2])
theorem pre_Pair_0 (x : Pair) : Pre ((cPair x).drop 0) byteD x.fKey := pre_first
theorem spl_Pair_0 (x : Pair) (v : (Arr 32 UInt8)) : spl ((cPair x).map PV.d) 0 ((v.1.map byteD).map PV.d) = (cPair { x with fKey := v }).map PV.d := spl_first (show ((x.fKey).1.map byteD).length = 32 by rw [List.length_map, x.fKey.2]) (show (v.1.map byteD).length = 32 by rw [List.length_map, v.2])
theorem ldc_Pair_1 (x : Pair) : LdC false 1 ((cPair x).drop 32) (.val (sV (x.fValue))) := ldc_skip 32 0 (show ((x.fKey).1.map byteD).length = 32 by rw [List.length_map, x.fKey.2]) (LdC.one)
theorem spl_Pair_1 (x : Pair) (v : (List UInt8)) : spl ((cPair x).map PV.d) 32 [PV.d (.val (sV v))] = (cPair { x with fValue := v }).map PV.d := spl_skip 32 0 (show ((x.fKey).1.map byteD).length = 32 by rw [List.length_map, x.fKey.2]) rfl
theorem flat_Pair (x : Pair) : ∀ d ∈ cPair x, d.flat = true := (flat_app (flat_arr _ (fun _ => rfl)) (flat_cons rfl flat_nil))
structure In where
  fPath : (List UInt8)
  fValue : (List UInt8)
  deriving Inhabited
def cIn (x : In) : List D := ([.slice ((x.fPath).map byteD), .val (sV (x.fValue))])
def eIn (x : In) : D := .agg (cIn x)
theorem eIn_eq (x : In) : eIn x = .agg (cIn x) := rfl
theorem lay_In : Lay eIn cIn 2 := ⟨fun _ => rfl, fun _ => rfl⟩
structure Frozen where
  fl : (List (Arr 32 UInt8))
  deriving Inhabited
def cFrozen (x : Frozen) : List D := ([.slice ((x.fl).map (eA byteD))])
def eFrozen (x : Frozen) : D := .agg (cFrozen x)
theorem eFrozen_eq (x : Frozen) : eFrozen x = .agg (cFrozen x) := rfl
theorem lay_Frozen : Lay eFrozen cFrozen 1 := ⟨fun _ => rfl, fun _ => rfl⟩
structure Node where
  fKind : Int
  fPath : (List UInt8)
  fValue : (List UInt8)
  fKids : (Arr 16 (List UInt8))
  deriving Inhabited
def cNode (x : Node) : List D := ([.val (.int .i64 (x.fKind)), .slice ((x.fPath).map byteD), .val (sV (x.fValue))]) ++ ((x.fKids).1.map eS)
def eNode (x : Node) : D := .agg (cNode x)
theorem eNode_eq (x : Node) : eNode x = .agg (cNode x) := rfl
theorem lay_Node : Lay eNode cNode 19 := ⟨fun _ => rfl, fun x => by simp [cNode, x.fKids.2]⟩
theorem ldc_Node_0 (x : Node) : LdC false 1 ((cNode x).drop 0) (.val (.int .i64 (x.fKind))) := LdC.one
theorem spl_Node_0 (x : Node) (v : Int) : spl ((cNode x).map PV.d) 0 [PV.d (.val (.int .i64 v))] = (cNode { x with fKind := v }).map PV.d := rfl
theorem ldc_Node_1 (x : Node) : LdC false 1 ((cNode x).drop 1) (.slice ((x.fPath).map byteD)) := LdC.one
theorem spl_Node_1 (x : Node) (v : (List UInt8)) : spl ((cNode x).map PV.d) 1 [PV.d (.slice (v.map byteD))] = (cNode { x with fPath := v }).map PV.d := rfl
theorem ldc_Node_2 (x : Node) : LdC false 1 ((cNode x).drop 2) (.val (sV (x.fValue))) := LdC.one
theorem spl_Node_2 (x : Node) (v : (List UInt8)) : spl ((cNode x).map PV.d) 2 [PV.d (.val (sV v))] = (cNode { x with fValue := v }).map PV.d := rfl
theorem ldc_Node_3 (x : Node) : LdC true 16 ((cNode x).drop 3) (.agg ((x.fKids).1.map eS)) := ldc_skip 3 0 rfl (ldc_all (show ((x.fKids).1.map eS).length = 16 by rw [List.length_map, x.fKids.2]))
theorem pre_Node_3 (x : Node) : Pre ((cNode x).drop 3) eS x.fKids := pre_skip 3 0 rfl (Pre.all _)
theorem spl_Node_3 (x : Node) (v : (Arr 16 (List UInt8))) : spl ((cNode x).map PV.d) 3 ((v.1.map eS).map PV.d) = (cNode { x with fKids := v }).map PV.d := spl_skip 3 0 rfl (spl_all0 (show ((x.fKids).1.map eS).length = 16 by rw [List.length_map, x.fKids.2]) (show (v.1.map eS).length = 16 by rw [List.length_map, v.2]))
theorem flat_Node (x : Node) : ∀ d ∈ cNode x, d.flat = true := (flat_app (flat_cons rfl (flat_cons rfl (flat_cons rfl flat_nil))) (flat_arr _ (fun _ => rfl)))
end Go.Proofs.Ytonlehebfeilmaa.K
