/- The references of layer 06: what they reckon. -/
import Derived.Test.YtoeppofkmcdknaaCWNode
import Derived.KernelRfl
namespace Go.Proofs.Ytoeppofkmcdknaa.K
open Go Go.RowKit
set_option linter.unusedSimpArgs false
set_option linter.unusedVariables false
set_option maxRecDepth 20000
set_option maxHeartbeats 4000000
namespace TT
end TT
inductive C_ref05_Read where
  | S
  | L2 (v13_3 : Int) (v16_2 : Int)
  | J1 (v13_2 : Int) (v14 : Int)
  | L3 (left2_2 : Int) (v13_5 : Int) (v14_3 : Int) (v17_2 : (List UInt8)) (v18_2 : (List Item))
noncomputable def step_ref05_Read (self : (List UInt8) → Int → Int → Option (Item × Int × Int × Int)) (s0 : (List UInt8)) (depth1 : Int) (left2 : Int) : C_ref05_Read → Option (C_ref05_Read ⊕ (Item × Int × Int × Int))
  | .S =>
    (bif (decide ((64 : Int) < depth1)) then
    some (.inr ((⟨false, ([] : List UInt8), ([] : (List Item))⟩ : Item), 0, 0, 17))
    else
    (bif (decide (left2 < (1 : Int))) then
    some (.inr ((⟨false, ([] : List UInt8), ([] : (List Item))⟩ : Item), 0, 0, 4))
    else
    gO (inI (left2 - (1 : Int))) (
    (bif (s0 == ([] : List UInt8)) then
    some (.inr ((⟨false, ([] : List UInt8), ([] : (List Item))⟩ : Item), 0, 0, 5))
    else
    gO (0 ≤ (0 : Int) ∧ (0 : Int) < (s0.length : Int)) (
    (bif (decide (((idx s0 (0 : Int)).toNat : Int) < (128 : Int))) then
    gO (0 ≤ (0 : Int) ∧ (0 : Int) ≤ (1 : Int) ∧ (1 : Int) ≤ (s0.length : Int)) (
    some (.inr ((⟨false, (sub s0 (0 : Int) (1 : Int)), ([] : (List Item))⟩ : Item), 1, (left2 - (1 : Int)), 0)))
    else
    (bif (decide ((55 : Int) < (((idx s0 (0 : Int)).toNat : Int).tmod (64 : Int)))) then
    gO (inI ((((idx s0 (0 : Int)).toNat : Int).tmod (64 : Int)) - (55 : Int))) (
    gO (inI ((1 : Int) + ((((idx s0 (0 : Int)).toNat : Int).tmod (64 : Int)) - (55 : Int)))) (
    (bif (decide ((s0.length : Int) < ((1 : Int) + ((((idx s0 (0 : Int)).toNat : Int).tmod (64 : Int)) - (55 : Int))))) then
    some (.inr ((⟨false, ([] : List UInt8), ([] : (List Item))⟩ : Item), 0, 0, 5))
    else
    gO (0 ≤ (1 : Int) ∧ (1 : Int) < (s0.length : Int)) (
    (bif (decide (((idx s0 (1 : Int)).toNat : Int) = (0 : Int))) then
    some (.inr ((⟨false, ([] : List UInt8), ([] : (List Item))⟩ : Item), 0, 0, 6))
    else
    some (.inl (.L2 (0) (1))))))))
    else
    some (.inl (.J1 (((idx s0 (0 : Int)).toNat : Int).tmod (64 : Int)) (1))))))))))
  | .L2 v13_3 v16_2 =>
    (bif (decide (v16_2 ≤ ((((idx s0 (0 : Int)).toNat : Int).tmod (64 : Int)) - (55 : Int)))) then
    (bif (decide ((4294967296 : Int) ≤ v13_3)) then
    some (.inr ((⟨false, ([] : List UInt8), ([] : (List Item))⟩ : Item), 0, 0, 5))
    else
    gO (inI ((256 : Int) * v13_3)) (
    gO (0 ≤ v16_2 ∧ v16_2 < (s0.length : Int)) (
    gO (inI (((256 : Int) * v13_3) + ((idx s0 v16_2).toNat : Int))) (
    gO (inI (v16_2 + (1 : Int))) (
    some (.inl (.L2 (((256 : Int) * v13_3) + ((idx s0 v16_2).toNat : Int)) (v16_2 + (1 : Int)))))))))
    else
    (bif (decide (v13_3 < (56 : Int))) then
    some (.inr ((⟨false, ([] : List UInt8), ([] : (List Item))⟩ : Item), 0, 0, 6))
    else
    gO (inI ((1 : Int) + ((((idx s0 (0 : Int)).toNat : Int).tmod (64 : Int)) - (55 : Int)))) (
    some (.inl (.J1 v13_3 ((1 : Int) + ((((idx s0 (0 : Int)).toNat : Int).tmod (64 : Int)) - (55 : Int))))))))
  | .J1 v13_2 v14 =>
    gO (inI ((s0.length : Int) - v14)) (
    (bif (decide (((s0.length : Int) - v14) < v13_2)) then
    some (.inr ((⟨false, ([] : List UInt8), ([] : (List Item))⟩ : Item), 0, 0, 5))
    else
    gO (inI (v14 + v13_2)) (
    gO (0 ≤ v14 ∧ v14 ≤ (v14 + v13_2) ∧ (v14 + v13_2) ≤ (s0.length : Int)) (
    (bif (!(decide ((192 : Int) ≤ ((idx s0 (0 : Int)).toNat : Int)))) then
    gO ((decide (v13_2 = (1 : Int))) = true → 0 ≤ (0 : Int) ∧ (0 : Int) < ((sub s0 v14 (v14 + v13_2)).length : Int)) (
    (bif ((decide (v13_2 = (1 : Int))) && (decide (((idx (sub s0 v14 (v14 + v13_2)) (0 : Int)).toNat : Int) < (128 : Int)))) then
    some (.inr ((⟨false, ([] : List UInt8), ([] : (List Item))⟩ : Item), 0, 0, 6))
    else
    gO (inI (v14 + v13_2)) (
    some (.inr ((⟨false, (sub s0 v14 (v14 + v13_2)), ([] : (List Item))⟩ : Item), (v14 + v13_2), (left2 - (1 : Int)), 0)))))
    else
    some (.inl (.L3 (left2 - (1 : Int)) v13_2 v14 (sub s0 v14 (v14 + v13_2)) ([] : (List Item)))))))))
  | .L3 left2_2 v13_5 v14_3 v17_2 v18_2 =>
    (bif (!(v17_2 == ([] : List UInt8))) then
    gO (inI (depth1 + (1 : Int))) (
    ((self v17_2 (depth1 + (1 : Int)) left2_2).bind fun (x_35 : (Item × Int × Int × Int)) =>
    (bif (!decide ((x_35.2.2.2) = (0 : Int))) then
    some (.inr ((⟨false, ([] : List UInt8), ([] : (List Item))⟩ : Item), 0, 0, x_35.2.2.2))
    else
    gO ((v18_2.length + ([x_35.1] : List Item).length) * 48 ≤ 140737488355328) (
    gO (0 ≤ (x_35.2.1) ∧ (x_35.2.1) ≤ (v17_2.length : Int) ∧ (v17_2.length : Int) ≤ (v17_2.length : Int)) (
    some (.inl (.L3 (x_35.2.2.1) v13_5 v14_3 (sub v17_2 (x_35.2.1) (v17_2.length : Int)) (v18_2 ++ ([x_35.1] : List Item)))))))))
    else
    gO (inI (v14_3 + v13_5)) (
    some (.inr ((⟨true, ([] : List UInt8), v18_2⟩ : Item), (v14_3 + v13_5), left2_2, 0))))
noncomputable def gs_ref05_Read (self : (List UInt8) → Int → Int → Option (Item × Int × Int × Int)) (s0 : (List UInt8)) (depth1 : Int) (left2 : Int) : Option (Item × Int × Int × Int) := theC (step_ref05_Read self s0 depth1 left2) .S
noncomputable def rec_ref05_Read : Nat → (List UInt8) → Int → Int → Option (Item × Int × Int × Int)
  | 0 => fun _ _ _ => none
  | n + 1 => fun y0 y1 y2 => gs_ref05_Read (rec_ref05_Read n) y0 y1 y2
noncomputable def g_ref05_Read (y0 : (List UInt8)) (y1 : Int) (y2 : Int) : Option (Item × Int × Int × Int) := theR (fun n => rec_ref05_Read n y0 y1 y2)
inductive C_ref02_Pack where
  | S
  | L3 (v7_2 : (List UInt8)) (v8_2 : Int)
noncomputable def step_ref02_Pack (p0 : (List UInt8)) (leaf1 : Bool) : C_ref02_Pack → Option (C_ref02_Pack ⊕ (List UInt8))
  | .S =>
    (((bif leaf1 then
    some (32)
    else
    some (0)) : Option Int).bind fun (v5 : Int) =>
    (((bif (decide (((p0.length : Int).tmod (2 : Int)) = (1 : Int))) then
    gO (inI (v5 + (16 : Int))) (
    gO (0 ≤ (0 : Int) ∧ (0 : Int) < (p0.length : Int)) (
    gO (inI ((v5 + (16 : Int)) + ((idx p0 (0 : Int)).toNat : Int))) (
    some (((v5 + (16 : Int)) + ((idx p0 (0 : Int)).toNat : Int)), 1))))
    else
    some (v5, 0)) : Option (Int × Int)).bind fun (v5_2, v6) =>
    some (.inl (.L3 ([(u8I v5_2)] : List UInt8) v6))))
  | .L3 v7_2 v8_2 =>
    (bif (decide (v8_2 < (p0.length : Int))) then
    gO (0 ≤ v8_2 ∧ v8_2 < (p0.length : Int)) (
    gO (inI (v8_2 + (1 : Int))) (
    gO (0 ≤ (v8_2 + (1 : Int)) ∧ (v8_2 + (1 : Int)) < (p0.length : Int)) (
    gO (v7_2.length + ([(((16 : UInt8) * (idx p0 v8_2)) + (idx p0 (v8_2 + (1 : Int))))] : List UInt8).length ≤ 9223372036854775807) (
    gO (inI (v8_2 + (2 : Int))) (
    some (.inl (.L3 (v7_2 ++ ([(((16 : UInt8) * (idx p0 v8_2)) + (idx p0 (v8_2 + (1 : Int))))] : List UInt8)) (v8_2 + (2 : Int)))))))))
    else
    some (.inr v7_2))
noncomputable def g_ref02_Pack (p0 : (List UInt8)) (leaf1 : Bool) : Option (List UInt8) := theC (step_ref02_Pack p0 leaf1) .S
inductive C_ref06_path where
  | S
  | L2 (v5_3 : (List UInt8)) (v6 : Int)
noncomputable def step_ref06_path (s0 : (List UInt8)) : C_ref06_path → Option (C_ref06_path ⊕ ((List UInt8) × Bool × Bool))
  | .S =>
    gO ((s0 == ([] : List UInt8)) = false → 0 ≤ (0 : Int) ∧ (0 : Int) < (s0.length : Int)) (
    (bif ((s0 == ([] : List UInt8)) || (decide ((64 : Int) ≤ ((idx s0 (0 : Int)).toNat : Int)))) then
    some (.inr (([] : (List UInt8)), false, false))
    else
    ((gO (0 ≤ (0 : Int) ∧ (0 : Int) < (s0.length : Int)) (
    (bif (decide (((((idx s0 (0 : Int)) / (16 : UInt8)) % (2 : UInt8)).toNat : Int) = (1 : Int))) then
    gO (0 ≤ (0 : Int) ∧ (0 : Int) < (s0.length : Int)) (
    gO ((([] : (List UInt8)).length + ([((idx s0 (0 : Int)) % (16 : UInt8))] : List UInt8).length) * 1 ≤ 140737488355328) (
    some (([] : (List UInt8)) ++ ([((idx s0 (0 : Int)) % (16 : UInt8))] : List UInt8))))
    else
    some ([] : (List UInt8)))) : Option (List UInt8)).bind fun (v5 : (List UInt8)) =>
    some (.inl (.L2 v5 (1))))))
  | .L2 v5_3 v6 =>
    (bif ((decide (v6 < (s0.length : Int))) && (decide (v6 < (40 : Int)))) then
    gO (0 ≤ v6 ∧ v6 < (s0.length : Int)) (
    gO (0 ≤ v6 ∧ v6 < (s0.length : Int)) (
    gO ((v5_3.length + ([((idx s0 v6) / (16 : UInt8)), ((idx s0 v6) % (16 : UInt8))] : List UInt8).length) * 1 ≤ 140737488355328) (
    gO (inI (v6 + (1 : Int))) (
    some (.inl (.L2 (v5_3 ++ ([((idx s0 v6) / (16 : UInt8)), ((idx s0 v6) % (16 : UInt8))] : List UInt8)) (v6 + (1 : Int))))))))
    else
    gO (0 ≤ (0 : Int) ∧ (0 : Int) < (s0.length : Int)) (
    ((bif ((decide ((v5_3.length : Int) ≤ (64 : Int))) == true) then g_ref02_Pack v5_3 (decide ((32 : Int) ≤ ((idx s0 (0 : Int)).toNat : Int))) else some default).bind fun (x_14 : (List UInt8)) =>
    some (.inr (v5_3, (decide ((32 : Int) ≤ ((idx s0 (0 : Int)).toNat : Int))), ((decide ((v5_3.length : Int) ≤ (64 : Int))) && (x_14 == s0)))))))
noncomputable def g_ref06_path (s0 : (List UInt8)) : Option ((List UInt8) × Bool × Bool) := theC (step_ref06_path s0) .S
inductive C_ref02_Right where
  | S
  | L1 (v3 : Int)
noncomputable def step_ref02_Right (p0 : (List UInt8)) : C_ref02_Right → Option (C_ref02_Right ⊕ Bool)
  | .S =>
    some (.inl (.L1 (0)))
  | .L1 v3 =>
    (bif (decide (v3 < (p0.length : Int))) then
    gO (0 ≤ v3 ∧ v3 < (p0.length : Int)) (
    (bif (decide ((16 : Int) ≤ ((idx p0 v3).toNat : Int))) then
    some (.inr false)
    else
    gO (inI (v3 + (1 : Int))) (
    some (.inl (.L1 (v3 + (1 : Int)))))))
    else
    some (.inr true))
noncomputable def g_ref02_Right (p0 : (List UInt8)) : Option Bool := theC (step_ref02_Right p0) .S
inductive C_ref06_kids where
  | S
  | L1 (v3_2 : Int) (v4 : Int)
noncomputable def step_ref06_kids (n0 : Node) : C_ref06_kids → Option (C_ref06_kids ⊕ Int)
  | .S =>
    some (.inl (.L1 (0) (0)))
  | .L1 v3_2 v4 =>
    (bif (decide (v4 < (16 : Int))) then
    ((gO (0 ≤ v4 ∧ v4 < ((16 : Nat) : Int)) (
    (bif (!((idx (n0.fKids).1 v4) == ([] : List UInt8))) then
    gO (inI (v3_2 + (1 : Int))) (
    some (v3_2 + (1 : Int)))
    else
    some v3_2)) : Option Int).bind fun (v3_4 : Int) =>
    gO (inI (v4 + (1 : Int))) (
    some (.inl (.L1 v3_4 (v4 + (1 : Int))))))
    else
    some (.inr v3_2))
noncomputable def g_ref06_kids (n0 : Node) : Option Int := theC (step_ref06_kids n0) .S
inductive C_ref06_May where
  | S
  | L1 (v3 : Int)
noncomputable def step_ref06_May (self : (List UInt8) → Option Bool) (n0 : Node) : C_ref06_May → Option (C_ref06_May ⊕ Bool)
  | .S =>
    ((g_ref02_Right (n0.fPath)).bind fun (x_1 : Bool) =>
    (bif ((!x_1) || (decide ((64 : Int) < ((n0.fPath).length : Int)))) then
    some (.inr false)
    else
    some (.inl (.L1 (0)))))
  | .L1 v3 =>
    (bif (decide (v3 < (16 : Int))) then
    gO (0 ≤ v3 ∧ v3 < ((16 : Nat) : Int)) (
    ((self (idx (n0.fKids).1 v3)).bind fun (x_7 : Bool) =>
    (bif (!x_7) then
    some (.inr false)
    else
    gO (inI (v3 + (1 : Int))) (
    some (.inl (.L1 (v3 + (1 : Int))))))))
    else
    (bif (decide ((n0.fKind) = (1 : Int))) then
    ((bif (((decide ((1 : Int) ≤ ((n0.fValue).length : Int))) && (decide (((n0.fValue).length : Int) ≤ (65552 : Int)))) == true) then g_ref06_kids n0 else some default).bind fun (x_12 : Int) =>
    some (.inr (((decide ((1 : Int) ≤ ((n0.fValue).length : Int))) && (decide (((n0.fValue).length : Int) ≤ (65552 : Int)))) && (decide (x_12 = (0 : Int))))))
    else
    (bif (decide ((n0.fKind) = (2 : Int))) then
    ((bif ((((n0.fValue == ([] : List UInt8)) && (decide ((0 : Int) < ((n0.fPath).length : Int)))) && (!((idx (n0.fKids).1 (0 : Int)) == ([] : List UInt8)))) == true) then g_ref06_kids n0 else some default).bind fun (x_15 : Int) =>
    some (.inr ((((n0.fValue == ([] : List UInt8)) && (decide ((0 : Int) < ((n0.fPath).length : Int)))) && (!((idx (n0.fKids).1 (0 : Int)) == ([] : List UInt8)))) && (decide (x_15 = (1 : Int))))))
    else
    ((bif ((((decide ((n0.fKind) = (3 : Int))) && (n0.fValue == ([] : List UInt8))) && (decide (((n0.fPath).length : Int) = (0 : Int)))) == true) then g_ref06_kids n0 else some default).bind fun (x_17 : Int) =>
    some (.inr ((((decide ((n0.fKind) = (3 : Int))) && (n0.fValue == ([] : List UInt8))) && (decide (((n0.fPath).length : Int) = (0 : Int)))) && (decide ((2 : Int) ≤ x_17))))))))
noncomputable def gs_ref06_May (self : (List UInt8) → Option Bool) (n0 : Node) : Option Bool := theC (step_ref06_May self n0) .S
noncomputable def gs_ref05_big (self : Int → Option (List UInt8)) (n0 : Int) : Option (List UInt8) :=
    (bif (decide (n0 = (0 : Int))) then
    some ([] : List UInt8)
    else
    gO ((256 : Int) ≠ 0 ∧ inI (n0.tdiv (256 : Int))) (
    ((self (n0.tdiv (256 : Int))).bind fun (x_3 : (List UInt8)) =>
    gO (x_3.length + ([(u8I (n0.tmod (256 : Int)))] : List UInt8).length ≤ 9223372036854775807) (
    some (x_3 ++ ([(u8I (n0.tmod (256 : Int)))] : List UInt8))))))
noncomputable def rec_ref05_big : Nat → Int → Option (List UInt8)
  | 0 => fun _ => none
  | n + 1 => fun y0 => gs_ref05_big (rec_ref05_big n) y0
noncomputable def g_ref05_big (y0 : Int) : Option (List UInt8) := theR (fun n => rec_ref05_big n y0)
noncomputable def g_ref05_Head (n0 : Int) (list1 : Bool) : Option (List UInt8) :=
    (((bif list1 then
    some (192)
    else
    some (128)) : Option Int).bind fun (v5 : Int) =>
    (bif (decide (n0 < (56 : Int))) then
    gO (inI (v5 + n0)) (
    some ([(u8I (v5 + n0))] : List UInt8))
    else
    ((g_ref05_big n0).bind fun (x_4 : (List UInt8)) =>
    gO (inI (v5 + (55 : Int))) (
    gO (inI ((v5 + (55 : Int)) + (x_4.length : Int))) (
    gO (([(u8I ((v5 + (55 : Int)) + (x_4.length : Int)))] : List UInt8).length + x_4.length ≤ 9223372036854775807) (
    some (([(u8I ((v5 + (55 : Int)) + (x_4.length : Int)))] : List UInt8) ++ x_4)))))))
inductive C_ref05_Put where
  | S
  | L1 (v3 : (List UInt8)) (v4 : Int)
noncomputable def step_ref05_Put (self : Item → Option (List UInt8)) (x0 : Item) : C_ref05_Put → Option (C_ref05_Put ⊕ (List UInt8))
  | .S =>
    (bif (!(x0).fList) then
    gO ((decide (((x0.fS).length : Int) = (1 : Int))) = true → 0 ≤ (0 : Int) ∧ (0 : Int) < ((x0.fS).length : Int)) (
    (bif ((decide (((x0.fS).length : Int) = (1 : Int))) && (decide (((idx (x0.fS) (0 : Int)).toNat : Int) ≤ (127 : Int)))) then
    some (.inr (x0.fS))
    else
    ((g_ref05_Head ((x0.fS).length : Int) false).bind fun (x_4 : (List UInt8)) =>
    gO (x_4.length + (x0.fS).length ≤ 9223372036854775807) (
    some (.inr (x_4 ++ x0.fS))))))
    else
    some (.inl (.L1 ([] : List UInt8) (0))))
  | .L1 v3 v4 =>
    (bif (decide (v4 < ((x0.fL).length : Int))) then
    gO (0 ≤ v4 ∧ v4 < ((x0.fL).length : Int)) (
    ((self (idx (x0.fL) v4)).bind fun (x_10 : (List UInt8)) =>
    gO (v3.length + x_10.length ≤ 9223372036854775807) (
    gO (inI (v4 + (1 : Int))) (
    some (.inl (.L1 (v3 ++ x_10) (v4 + (1 : Int))))))))
    else
    ((g_ref05_Head (v3.length : Int) true).bind fun (x_14 : (List UInt8)) =>
    gO (x_14.length + v3.length ≤ 9223372036854775807) (
    some (.inr (x_14 ++ v3)))))
noncomputable def gs_ref05_Put (self : Item → Option (List UInt8)) (x0 : Item) : Option (List UInt8) := theC (step_ref05_Put self x0) .S
noncomputable def rec_ref05_Put : Nat → Item → Option (List UInt8)
  | 0 => fun _ => none
  | n + 1 => fun y0 => gs_ref05_Put (rec_ref05_Put n) y0
noncomputable def g_ref05_Put (y0 : Item) : Option (List UInt8) := theR (fun n => rec_ref05_Put n y0)
inductive C_ref06_kid where
  | S
  | J1 (v4 : (List UInt8))
noncomputable def step_ref06_kid (self : (List UInt8) → Option Bool) (x0 : Item) : C_ref06_kid → Option (C_ref06_kid ⊕ ((List UInt8) × Bool))
  | .S =>
    (bif x0.fList then
    ((g_ref05_Put x0).bind fun (x_2 : (List UInt8)) =>
    (bif (decide ((31 : Int) < (x_2.length : Int))) then
    some (.inr (([] : List UInt8), false))
    else
    some (.inl (.J1 x_2))))
    else
    some (.inl (.J1 (x0.fS))))
  | .J1 v4 =>
    ((self v4).bind fun (x_6 : Bool) =>
    some (.inr (v4, x_6)))
noncomputable def gs_ref06_kid (self : (List UInt8) → Option Bool) (x0 : Item) : Option ((List UInt8) × Bool) := theC (step_ref06_kid self x0) .S
noncomputable def g_ref06_text (s0 : (List UInt8)) : Option (List UInt8) :=
    ((g_ref05_Put (⟨false, s0, ([] : (List Item))⟩ : Item)).bind fun (x_1 : (List UInt8)) =>
    some x_1)
noncomputable def g_ref06_ref (s0 : (List UInt8)) : Option (List UInt8) :=
    (bif ((s0 == ([] : List UInt8)) || (decide ((s0.length : Int) = (32 : Int)))) then
    ((g_ref06_text s0).bind fun (x_2 : (List UInt8)) =>
    some x_2)
    else
    some s0)
inductive C_ref06_Put where
  | S
  | L4 (v3_7 : (List UInt8)) (v4_2 : Int)
  | J3 (v3_5 : (List UInt8))
noncomputable def step_ref06_Put (n0 : Node) : C_ref06_Put → Option (C_ref06_Put ⊕ (List UInt8))
  | .S =>
    (((bif (decide ((n0.fKind) = (1 : Int))) then
    ((g_ref02_Pack (n0.fPath) true).bind fun (x_2 : (List UInt8)) =>
    ((g_ref06_text x_2).bind fun (x_4 : (List UInt8)) =>
    ((g_ref06_text (n0.fValue)).bind fun (x_6 : (List UInt8)) =>
    gO (x_4.length + x_6.length ≤ 9223372036854775807) (
    some (x_4 ++ x_6)))))
    else
    some ([] : List UInt8)) : Option (List UInt8)).bind fun (v3 : (List UInt8)) =>
    (((bif (decide ((n0.fKind) = (2 : Int))) then
    ((g_ref02_Pack (n0.fPath) false).bind fun (x_10 : (List UInt8)) =>
    ((g_ref06_text x_10).bind fun (x_12 : (List UInt8)) =>
    ((g_ref06_ref (idx (n0.fKids).1 (0 : Int))).bind fun (x_14 : (List UInt8)) =>
    gO (x_12.length + x_14.length ≤ 9223372036854775807) (
    some (x_12 ++ x_14)))))
    else
    some v3) : Option (List UInt8)).bind fun (v3_2 : (List UInt8)) =>
    (bif (decide ((n0.fKind) = (3 : Int))) then
    some (.inl (.L4 v3_2 (0)))
    else
    some (.inl (.J3 v3_2)))))
  | .L4 v3_7 v4_2 =>
    (bif (decide (v4_2 < (16 : Int))) then
    gO (0 ≤ v4_2 ∧ v4_2 < ((16 : Nat) : Int)) (
    ((g_ref06_ref (idx (n0.fKids).1 v4_2)).bind fun (x_21 : (List UInt8)) =>
    gO (v3_7.length + x_21.length ≤ 9223372036854775807) (
    gO (inI (v4_2 + (1 : Int))) (
    some (.inl (.L4 (v3_7 ++ x_21) (v4_2 + (1 : Int))))))))
    else
    gO (v3_7.length + ([128] : List UInt8).length ≤ 9223372036854775807) (
    some (.inl (.J3 (v3_7 ++ ([128] : List UInt8))))))
  | .J3 v3_5 =>
    ((g_ref05_Head (v3_5.length : Int) true).bind fun (x_27 : (List UInt8)) =>
    gO (x_27.length + v3_5.length ≤ 9223372036854775807) (
    some (.inr (x_27 ++ v3_5))))
noncomputable def g_ref06_Put (n0 : Node) : Option (List UInt8) := theC (step_ref06_Put n0) .S
inductive C_ref06_Get where
  | S
  | L1 (v14 : Int) (v4_0_2 : Bool) (v4_1_2 : (List UInt8)) (v4_2_2 : (List Item)) (v8_3 : (Arr 16 (List UInt8)))
noncomputable def step_ref06_Get (self : (List UInt8) → Option Bool) (s0 : (List UInt8)) : C_ref06_Get → Option (C_ref06_Get ⊕ (Node × Bool))
  | .S =>
    ((g_ref05_Read s0 (0) (4096)).bind fun (x_1 : (Item × Int × Int × Int)) =>
    (bif (((!decide ((x_1.2.2.2) = (0 : Int))) || (!decide ((x_1.2.1) = (s0.length : Int)))) || ((!decide ((((x_1.1).fL).length : Int) = (2 : Int))) && (!decide ((((x_1.1).fL).length : Int) = (17 : Int))))) then
    some (.inr ((⟨0, ([] : (List UInt8)), ([] : List UInt8), (Arr.rep 16 ([] : (List UInt8)))⟩ : Node), false))
    else
    (bif (decide ((((x_1.1).fL).length : Int) = (2 : Int))) then
    gO (0 ≤ (0 : Int) ∧ (0 : Int) < (((x_1.1).fL).length : Int)) (
    ((g_ref06_path ((idx ((x_1.1).fL) (0 : Int)).fS)).bind fun (x_6 : ((List UInt8) × Bool × Bool)) =>
    gO ((!(x_6).2.2) = false → 0 ≤ (0 : Int) ∧ (0 : Int) < (((x_1.1).fL).length : Int)) (
    (bif ((!(x_6).2.2) || (idx ((x_1.1).fL) (0 : Int)).fList) then
    some (.inr ((⟨0, ([] : (List UInt8)), ([] : List UInt8), (Arr.rep 16 ([] : (List UInt8)))⟩ : Node), false))
    else
    (bif x_6.2.1 then
    gO (0 ≤ (1 : Int) ∧ (1 : Int) < (((x_1.1).fL).length : Int)) (
    gO (0 ≤ (1 : Int) ∧ (1 : Int) < (((x_1.1).fL).length : Int)) (
    ((bif ((!(idx ((x_1.1).fL) (1 : Int)).fList) == true) then gs_ref06_May self (⟨1, x_6.1, (idx ((x_1.1).fL) (1 : Int)).fS, (Arr.rep 16 ([] : (List UInt8)))⟩ : Node) else some default).bind fun (x_13 : Bool) =>
    some (.inr ((⟨1, x_6.1, (idx ((x_1.1).fL) (1 : Int)).fS, (Arr.rep 16 ([] : (List UInt8)))⟩ : Node), ((!(idx ((x_1.1).fL) (1 : Int)).fList) && x_13))))))
    else
    gO (0 ≤ (1 : Int) ∧ (1 : Int) < (((x_1.1).fL).length : Int)) (
    ((gs_ref06_kid self (idx ((x_1.1).fL) (1 : Int))).bind fun (x_16 : ((List UInt8) × Bool)) =>
    ((bif (x_16.2 == true) then gs_ref06_May self (⟨2, x_6.1, ([] : List UInt8), ((Arr.rep 16 ([] : (List UInt8))).put (0 : Int) (x_16.1))⟩ : Node) else some default).bind fun (x_18 : Bool) =>
    ((bif ((x_16.2 && x_18) == true) then g_ref06_Put (⟨2, x_6.1, ([] : List UInt8), ((Arr.rep 16 ([] : (List UInt8))).put (0 : Int) (x_16.1))⟩ : Node) else some default).bind fun (x_20 : (List UInt8)) =>
    some (.inr ((⟨2, x_6.1, ([] : List UInt8), ((Arr.rep 16 ([] : (List UInt8))).put (0 : Int) (x_16.1))⟩ : Node), ((x_16.2 && x_18) && (x_20 == s0)))))))))))))
    else
    some (.inl (.L1 (0) ((x_1.1).fList) ((x_1.1).fS) ((x_1.1).fL) (Arr.rep 16 ([] : (List UInt8))))))))
  | .L1 v14 v4_0_2 v4_1_2 v4_2_2 v8_3 =>
    (bif (decide (v14 < (16 : Int))) then
    gO (0 ≤ v14 ∧ v14 < (v4_2_2.length : Int)) (
    ((gs_ref06_kid self (idx v4_2_2 v14)).bind fun (x_25 : ((List UInt8) × Bool)) =>
    (bif (!(x_25).2) then
    some (.inr ((⟨0, ([] : (List UInt8)), ([] : List UInt8), (Arr.rep 16 ([] : (List UInt8)))⟩ : Node), false))
    else
    gO (0 ≤ v14 ∧ v14 < ((16 : Nat) : Int)) (
    gO (inI (v14 + (1 : Int))) (
    some (.inl (.L1 (v14 + (1 : Int)) v4_0_2 v4_1_2 v4_2_2 (v8_3.put v14 (x_25.1)))))))))
    else
    ((gs_ref06_May self (⟨3, ([] : (List UInt8)), ([] : List UInt8), v8_3⟩ : Node)).bind fun (x_30 : Bool) =>
    ((bif (x_30 == true) then g_ref06_Put (⟨3, ([] : (List UInt8)), ([] : List UInt8), v8_3⟩ : Node) else some default).bind fun (x_32 : (List UInt8)) =>
    some (.inr ((⟨3, ([] : (List UInt8)), ([] : List UInt8), v8_3⟩ : Node), (x_30 && (x_32 == s0)))))))
noncomputable def gs_ref06_Get (self : (List UInt8) → Option Bool) (s0 : (List UInt8)) : Option (Node × Bool) := theC (step_ref06_Get self s0) .S
noncomputable def gs_ref06_Reference (self : (List UInt8) → Option Bool) (s0 : (List UInt8)) : Option Bool :=
    (bif ((s0 == ([] : List UInt8)) || (decide ((s0.length : Int) = (32 : Int)))) then
    some true
    else
    (bif (decide ((31 : Int) < (s0.length : Int))) then
    some false
    else
    ((gs_ref06_Get self s0).bind fun (x_3 : (Node × Bool)) =>
    some (x_3.2))))
noncomputable def rec_ref06_Reference : Nat → (List UInt8) → Option Bool
  | 0 => fun _ => none
  | n + 1 => fun y0 => gs_ref06_Reference (rec_ref06_Reference n) y0
noncomputable def g_ref06_Reference (y0 : (List UInt8)) : Option Bool := theR (fun n => rec_ref06_Reference n y0)
noncomputable def g_ref06_Get (s0 : (List UInt8)) : Option (Node × Bool) := gs_ref06_Get g_ref06_Reference s0
end Go.Proofs.Ytoeppofkmcdknaa.K
