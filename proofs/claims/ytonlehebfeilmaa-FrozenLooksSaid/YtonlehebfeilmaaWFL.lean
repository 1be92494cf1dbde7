/- The law FrozenLooks: what it reckons. -/
import Derived.Test.YtonlehebfeilmaaD1
import Derived.Test.YtonlehebfeilmaaWA31
import Derived.KernelRfl
namespace Go.Proofs.Ytonlehebfeilmaa.K
open Go Go.RowKit
set_option linter.unusedSimpArgs false
set_option linter.unusedVariables false
namespace TT
theorem arrB_64_32 : arrB Try.prog 64 32 = true := by kernel_rfl
theorem bldA_64 : bldA Try.prog 64 = some ([Value.int IntKind.u8 0, Value.int IntKind.u8 0, Value.int IntKind.u8 0, Value.int IntKind.u8 0, Value.int IntKind.u8 0, Value.int IntKind.u8 0, Value.int IntKind.u8 0, Value.int IntKind.u8 0, Value.int IntKind.u8 0, Value.int IntKind.u8 0, Value.int IntKind.u8 0, Value.int IntKind.u8 0, Value.int IntKind.u8 0, Value.int IntKind.u8 0, Value.int IntKind.u8 0, Value.int IntKind.u8 0, Value.int IntKind.u8 0, Value.int IntKind.u8 0, Value.int IntKind.u8 0, Value.int IntKind.u8 0, Value.int IntKind.u8 0, Value.int IntKind.u8 0, Value.int IntKind.u8 0, Value.int IntKind.u8 0, Value.int IntKind.u8 0, Value.int IntKind.u8 0, Value.int IntKind.u8 0, Value.int IntKind.u8 0, Value.int IntKind.u8 0, Value.int IntKind.u8 0, Value.int IntKind.u8 0, Value.int IntKind.u8 0], .inr 1) := by kernel_rfl
theorem enters_46 : entersB Try.prog 46 = true := by kernel_rfl
theorem enters_47 : entersB Try.prog 47 = true := by kernel_rfl
theorem enters_52 : entersB Try.prog 52 = true := by kernel_rfl
theorem enters_54 : entersB Try.prog 54 = true := by kernel_rfl
theorem enters_55 : entersB Try.prog 55 = true := by kernel_rfl
theorem enters_56 : entersB Try.prog 56 = true := by kernel_rfl
theorem enters_57 : entersB Try.prog 57 = true := by kernel_rfl
theorem enters_58 : entersB Try.prog 58 = true := by kernel_rfl
theorem enters_59 : entersB Try.prog 59 = true := by kernel_rfl
theorem enters_60 : entersB Try.prog 60 = true := by kernel_rfl
theorem enters_61 : entersB Try.prog 61 = true := by kernel_rfl
theorem res_10 : Try.f10.results.toList = [.tmp 6] := rfl
theorem rowA_58 : rowA Try.prog 58 = some (32, 32) := by kernel_rfl
theorem rowA_72 : rowA Try.prog 72 = some (1, 8) := by kernel_rfl
theorem slcA_58 : slcA Try.prog 58 = some (32, 32, true) := by kernel_rfl
theorem slcA_72 : slcA Try.prog 72 = some (1, 8, false) := by kernel_rfl
theorem tyA_3 : tyA Try.prog 3 = some (false, 1) := by kernel_rfl
theorem tyA_60 : tyA Try.prog 60 = some (true, 1) := by kernel_rfl
theorem tyA_64 : tyA Try.prog 64 = some (true, 32) := by kernel_rfl
theorem under_4 : Program.underlying Try.prog 4 = some (.bool) := by kernel_rfl
theorem under_58 : Program.underlying Try.prog 58 = some (.slice 64) := by kernel_rfl
theorem under_72 : Program.underlying Try.prog 72 = some (.slice 3) := by kernel_rfl
theorem zeroA_60 : zeroA Try.prog 60 = some [Value.slice none 0 0] := by kernel_rfl
theorem zeroA_64 : zeroA Try.prog 64 = some [Value.int IntKind.u8 0, Value.int IntKind.u8 0, Value.int IntKind.u8 0, Value.int IntKind.u8 0, Value.int IntKind.u8 0, Value.int IntKind.u8 0, Value.int IntKind.u8 0, Value.int IntKind.u8 0, Value.int IntKind.u8 0, Value.int IntKind.u8 0, Value.int IntKind.u8 0, Value.int IntKind.u8 0, Value.int IntKind.u8 0, Value.int IntKind.u8 0, Value.int IntKind.u8 0, Value.int IntKind.u8 0, Value.int IntKind.u8 0, Value.int IntKind.u8 0, Value.int IntKind.u8 0, Value.int IntKind.u8 0, Value.int IntKind.u8 0, Value.int IntKind.u8 0, Value.int IntKind.u8 0, Value.int IntKind.u8 0, Value.int IntKind.u8 0, Value.int IntKind.u8 0, Value.int IntKind.u8 0, Value.int IntKind.u8 0, Value.int IntKind.u8 0, Value.int IntKind.u8 0, Value.int IntKind.u8 0, Value.int IntKind.u8 0] := by kernel_rfl
end TT

def sums (l : List (Arr 32 UInt8)) : List (List UInt8) := l.map (·.1)
theorem sums_len (l : List (Arr 32 UInt8)) : (sums l).length = l.length := by simp [sums]
theorem sums_map (l : List (Arr 32 UInt8)) : (sums l).map sumD = l.map (eA byteD) := by
  unfold sums
  rw [List.map_map]; rfl
theorem sums32 (l : List (Arr 32 UInt8)) : ∀ s ∈ sums l, s.length = 32 := by
  intro s hs
  obtain ⟨a, _, rfl⟩ := List.mem_map.1 hs
  exact a.2
theorem sums_len20 {l : List (Arr 32 UInt8)} (h : l.length ≤ 2 ^ 20) : (sums l).length ≤ 2 ^ 20 := by rw [sums_len]; exact h
theorem N_frzOf (l : List (Arr 32 UInt8)) (h : l.length ≤ 2 ^ 20) : Fun Try.prog 47 [.slice (l.map (eA byteD))] (.agg (cFrozen ⟨l⟩)) := by
  have := frzOf_fun (sums l) (sums32 l) (sums_len20 h)
  rw [sums_map] at this; exact this
theorem N_frzAdd (f : Frozen) (x : Arr 32 UInt8) (h : f.fl.length ≤ 2 ^ 20) : Fun Try.prog 54 [.agg (cFrozen f), .agg (x.1.map byteD)] (.agg (cFrozen ⟨f.fl ++ [x]⟩)) := by
  have := frzAdd_fun (sums f.fl) x.1 x.2 (sums32 _) (sums_len20 h)
  have e : sums f.fl ++ [x.1] = sums (f.fl ++ [x]) := by simp [sums]
  rw [e, sums_map, sums_map] at this; exact this
def atA (l : List (Arr 32 UInt8)) (e : Int) : Arr 32 UInt8 := if 0 ≤ e ∧ e < (l.length : Int) then idx l e else Arr.rep 32 0
theorem atA_eq (l : List (Arr 32 UInt8)) (e : Int) : atS (sums l) e = (atA l e).1 := by
  unfold atS atA
  rw [sums_len]
  split
  · rename_i h
    have hi : e.toNat < l.length := by omega
    simp [idx, sums, List.getD_eq_getElem?_getD, List.getElem?_eq_getElem hi]
  · rfl
theorem N_frzAt (f : Frozen) (e : Int) (h : f.fl.length ≤ 2 ^ 20) : Fun Try.prog 55 [.agg (cFrozen f), .val (.int .i64 e)] (.tuple [.agg ((atA f.fl e).1.map byteD), .val (.bool (decide (0 ≤ e ∧ e < (f.fl.length : Int))))]) := by
  have := frzAt_fun (sums f.fl) e (sums32 _) (sums_len20 h)
  rw [atA_eq, sums_map, sums_len] at this; exact this
def whA (l : List (Arr 32 UInt8)) (x : Arr 32 UInt8) : List Int := (whereN (sums l) x.1 l.length).map Int.ofNat
theorem N_frzWhere (f : Frozen) (x : Arr 32 UInt8) (h : f.fl.length ≤ 2 ^ 20) : Fun Try.prog 58 [.agg (cFrozen f), .agg (x.1.map byteD)] (.slice ((whA f.fl x).map eI)) := by
  have := frzWhere_fun (sums f.fl) x.1 x.2 (sums32 _) (sums_len20 h)
  rw [sums_map, sums_len] at this
  unfold whA
  rw [List.map_map]; exact this
theorem N_frzLen (f : Frozen) (h : f.fl.length ≤ 2 ^ 20) : Fun Try.prog 59 [.agg (cFrozen f)] (.val (.int .i64 (f.fl.length : Int))) := by
  have := frzLen_fun (sums f.fl) (sums32 _) (sums_len20 h)
  rw [sums_map, sums_len] at this; exact this
theorem N_frzAll (f : Frozen) (h : f.fl.length ≤ 2 ^ 20) : Fun Try.prog 60 [.agg (cFrozen f)] (.slice (f.fl.map (eA byteD))) := by
  have := frzAll_fun (sums f.fl) (sums32 _) (sums_len20 h)
  rw [sums_map] at this; exact this
theorem N_frzSince (f : Frozen) (e : Int) (h : f.fl.length ≤ 2 ^ 20) : Fun Try.prog 61 [.agg (cFrozen f), .val (.int .i64 e)] (.slice ((f.fl.drop (sinceN e f.fl.length)).map (eA byteD))) := by
  have := frzSince_fun (sums f.fl) e (sums32 _) (sums_len20 h)
  have e2 : (sums f.fl).drop (sinceN e f.fl.length) = sums (f.fl.drop (sinceN e f.fl.length)) := by simp [sums]
  rw [sums_len, e2, sums_map, sums_map] at this; exact this
theorem N_refSame (l m : List (Arr 32 UInt8)) (h : l.length ≤ 2 ^ 20 ∧ m.length ≤ 2 ^ 20) : Fun Try.prog 52 [.slice (l.map (eA byteD)), .slice (m.map (eA byteD))] (.val (.bool ((sums l).flatten == (sums m).flatten))) := by
  have := refSame_fun (sums l) (sums m) (sums32 _) (sums_len20 h.1) (sums32 _) (sums_len20 h.2)
  rw [sums_map, sums_map] at this; exact this
inductive C_law31_FrozenLooks where
  | S
  | L2 (l0_4 : (List (Arr 32 UInt8))) (v10_2 : Bool) (v11_2 : Int) (v12_2 : (List Int)) (v13 : Int) (v7_0_2 : (List (Arr 32 UInt8))) (v8_0_2 : (List (Arr 32 UInt8))) (v9_2 : (Arr 32 UInt8))
  | L4 (l0_6 : (List (Arr 32 UInt8))) (v10_4 : Bool) (v11_4 : Int) (v12_6 : (List Int)) (v14_2 : (List Int)) (v15 : Int) (v7_0_4 : (List (Arr 32 UInt8))) (v8_0_4 : (List (Arr 32 UInt8))) (v9_4 : (Arr 32 UInt8))

noncomputable def step_law31_FrozenLooks (l0 : (List (Arr 32 UInt8))) (x1 : (Arr 32 UInt8)) (epoch2 : Int) : C_law31_FrozenLooks → Option (C_law31_FrozenLooks ⊕ Bool)
  | .S =>
    (((bif (decide ((60 : Int) < (l0.length : Int))) then
    gO (0 ≤ (0 : Int) ∧ (0 : Int) ≤ (60 : Int) ∧ (60 : Int) ≤ (l0.length : Int)) (
    some (sub l0 (0 : Int) (60 : Int)))
    else
    some l0) : Option (List (Arr 32 UInt8))).bind fun (l0_2 : (List (Arr 32 UInt8))) =>
    gO (l0_2.length ≤ 2 ^ 20) (
    gO (l0_2.length ≤ 2 ^ 20) (
    gO (l0_2.length ≤ 2 ^ 20) (
    some (.inl (.L2 l0_2 (decide (0 ≤ epoch2 ∧ epoch2 < (l0_2.length : Int))) (if 0 < (if epoch2 < (l0_2.length : Int) then epoch2 else (l0_2.length : Int)) then (if epoch2 < (l0_2.length : Int) then epoch2 else (l0_2.length : Int)) else 0) ([] : (List Int)) (0) l0_2 (l0_2 ++ [x1]) (atA l0_2 epoch2)))))))
  | .L2 l0_4 v10_2 v11_2 v12_2 v13 v7_0_2 v8_0_2 v9_2 =>
    (bif (decide (v13 < (l0_4.length : Int))) then
    ((gO (0 ≤ v13 ∧ v13 < (l0_4.length : Int)) (
    (bif ((idx l0_4 v13).1 == x1.1) then
    gO ((v12_2.length + ([v13] : List Int).length) * 8 ≤ 140737488355328) (
    some (v12_2 ++ ([v13] : List Int)))
    else
    some v12_2)) : Option (List Int)).bind fun (v12_4 : (List Int)) =>
    gO (inI (v13 + (1 : Int))) (
    some (.inl (.L2 l0_4 v10_2 v11_2 v12_4 (v13 + (1 : Int)) v7_0_2 v8_0_2 v9_2))))
    else
    gO (v7_0_2.length ≤ 2 ^ 20) (
    some (.inl (.L4 l0_4 v10_2 v11_2 v12_2 (whA v7_0_2 x1) (0) v7_0_2 v8_0_2 v9_2))))
  | .L4 l0_6 v10_4 v11_4 v12_6 v14_2 v15 v7_0_4 v8_0_4 v9_4 =>
    (bif (decide (v15 < (v14_2.length : Int))) then
    gO ((!decide ((v14_2.length : Int) = (v12_6.length : Int))) = false → 0 ≤ v15 ∧ v15 < (v14_2.length : Int)) (
    gO ((!decide ((v14_2.length : Int) = (v12_6.length : Int))) = false → 0 ≤ v15 ∧ v15 < (v12_6.length : Int)) (
    (bif ((!decide ((v14_2.length : Int) = (v12_6.length : Int))) || (!decide ((idx v14_2 v15) = (idx v12_6 v15)))) then
    some (.inr false)
    else
    gO (inI (v15 + (1 : Int))) (
    some (.inl (.L4 l0_6 v10_4 v11_4 v12_6 v14_2 (v15 + (1 : Int)) v7_0_4 v8_0_4 v9_4))))))
    else
    gO ((((!(v10_4 == ((decide ((0 : Int) ≤ epoch2)) && (decide (epoch2 < (l0_6.length : Int)))))) == false) && (v10_4 == true)) = true → 0 ≤ epoch2 ∧ epoch2 < (l0_6.length : Int)) (
    (bif ((((!(v10_4 == ((decide ((0 : Int) ≤ epoch2)) && (decide (epoch2 < (l0_6.length : Int)))))) || (v10_4 && (!(v9_4.1 == (idx l0_6 epoch2).1)))) || ((!v10_4) && (!(v9_4.1 == (Arr.rep 32 (0 : UInt8)).1)))) || (!decide ((v14_2.length : Int) = (v12_6.length : Int)))) then
    some (.inr false)
    else
    gO ((([] : List (Arr 32 UInt8)).length + l0_6.length) * 32 ≤ 140737488355328) (
    gO (((([] : List (Arr 32 UInt8)) ++ l0_6).length + ([x1] : List (Arr 32 UInt8)).length) * 32 ≤ 140737488355328) (
    gO (v7_0_4.length ≤ 2 ^ 20) (
    gO ((decide ((v7_0_4.length : Int) = (l0_6.length : Int))) = true → v7_0_4.length ≤ 2 ^ 20) (
    gO ((decide ((v7_0_4.length : Int) = (l0_6.length : Int))) = true → v7_0_4.length ≤ 2 ^ 20 ∧ l0_6.length ≤ 2 ^ 20) (
    gO ((((decide ((v7_0_4.length : Int) = (l0_6.length : Int))) && ((sums v7_0_4).flatten == (sums l0_6).flatten)) == true) = true → v8_0_4.length ≤ 2 ^ 20) (
    gO ((((decide ((v7_0_4.length : Int) = (l0_6.length : Int))) && ((sums v7_0_4).flatten == (sums l0_6).flatten)) == true) = true → v8_0_4.length ≤ 2 ^ 20 ∧ ((([] : List (Arr 32 UInt8)) ++ l0_6) ++ ([x1] : List (Arr 32 UInt8))).length ≤ 2 ^ 20) (
    gO (((((decide ((v7_0_4.length : Int) = (l0_6.length : Int))) && ((sums v7_0_4).flatten == (sums l0_6).flatten)) && ((sums v8_0_4).flatten == (sums ((([] : List (Arr 32 UInt8)) ++ l0_6) ++ ([x1] : List (Arr 32 UInt8)))).flatten)) == true) = true → v7_0_4.length ≤ 2 ^ 20) (
    gO (((((decide ((v7_0_4.length : Int) = (l0_6.length : Int))) && ((sums v7_0_4).flatten == (sums l0_6).flatten)) && ((sums v8_0_4).flatten == (sums ((([] : List (Arr 32 UInt8)) ++ l0_6) ++ ([x1] : List (Arr 32 UInt8)))).flatten)) == true) = true → 0 ≤ v11_4 ∧ v11_4 ≤ (l0_6.length : Int) ∧ (l0_6.length : Int) ≤ (l0_6.length : Int)) (
    gO (((((decide ((v7_0_4.length : Int) = (l0_6.length : Int))) && ((sums v7_0_4).flatten == (sums l0_6).flatten)) && ((sums v8_0_4).flatten == (sums ((([] : List (Arr 32 UInt8)) ++ l0_6) ++ ([x1] : List (Arr 32 UInt8)))).flatten)) == true) = true → (v7_0_4.drop (sinceN epoch2 v7_0_4.length)).length ≤ 2 ^ 20 ∧ (sub l0_6 v11_4 (l0_6.length : Int)).length ≤ 2 ^ 20) (
    some (.inr ((((decide ((v7_0_4.length : Int) = (l0_6.length : Int))) && ((sums v7_0_4).flatten == (sums l0_6).flatten)) && ((sums v8_0_4).flatten == (sums ((([] : List (Arr 32 UInt8)) ++ l0_6) ++ ([x1] : List (Arr 32 UInt8)))).flatten)) && ((sums (v7_0_4.drop (sinceN epoch2 v7_0_4.length))).flatten == (sums (sub l0_6 v11_4 (l0_6.length : Int))).flatten))))))))))))))))

noncomputable def g_law31_FrozenLooks (l0 : (List (Arr 32 UInt8))) (x1 : (Arr 32 UInt8)) (epoch2 : Int) : Option Bool := theC (step_law31_FrozenLooks l0 x1 epoch2) .S

set_option maxRecDepth 20000 in
set_option maxHeartbeats 4000000 in
theorem sim_law31_FrozenLooks (l0 : (List (Arr 32 UInt8))) (x1 : (Arr 32 UInt8)) (epoch2 : Int) (r : Bool) (h : g_law31_FrozenLooks l0 x1 epoch2 = some r) : Fun Try.prog 10 [.slice (l0.map (eA byteD)), .agg (x1.1.map byteD), .val (.int .i64 epoch2)] (.val (.bool r)) := by
  refine Fun.of_bodyQ Try.func10 rfl (by simp [Try.ntmps10]) ?_
  rw [Try.ntmps10, TT.res_10]
  refine QW.view (s' := ⟨tab [(0, .d (.slice (l0.map (eA byteD)))), (1, .d (.agg (x1.1.map byteD))), (2, .d (.val (.int .i64 epoch2)))], tabH [], 0, []⟩) (View.init (by rfl)) (Nat.zero_le _) ?_
  replace h := theC_get h
  obtain ⟨_, h⟩ := h
  obtain ⟨k0, rfl, h9⟩ := run_succ h; replace h := h9; clear h9
  refine QW.seq ?_
  refine QW.region (Nat.zero_le _) (PW.regT (by kernel_rfl) ?_)
  refine XK.fz (some 4) rfl rfl (sf_boxF (ds := x1.1.map byteD) rfl rfl rfl rfl toDs_map ?_)
  refine XK.st (some 6) rfl rfl (sf_assign (v := .d (.val (.bool false))) rfl rfl ?_)
  refine XK.nil (nrm ?_)
  obtain ⟨l0_2, hq, h⟩ := bG h
  refine QW.seqI (fun s' => s' = ⟨tab [(0, .d (.slice (l0_2.map (eA byteD)))), (2, .d (.val (.int .i64 epoch2))), (4, .d (.cptr (x1.1.map byteD)))], tabH [], 0, []⟩) ?_ ?_
  · replace h := hq; clear hq
    refine QW.seq ?_
    refine QW.region (Nat.zero_le _) (PW.regT (by kernel_rfl) ?_)
    refine XK.st (some 18) rfl rfl (sf_move (v := .d (.slice (l0.map (eA byteD)))) rfl rfl ?_)
    refine XK.st (some 19) rfl rfl (sf_lenL (en := (eA byteD)) (l := l0) rfl TT.under_58 rfl ?_)
    refine XK.st (some 20) rfl rfl (sf_gtr (a := (l0.length : Int)) (b := (60 : Int)) rfl rfl rfl ?_)
    refine XK.nil (nrm ?_)
    refine QW.cond (t := (decide ((60 : Int) < (l0.length : Int)))) rfl (Nat.zero_le _) (fun hb1 => ?_) (fun hb1 => ?_)
    · replace h := bT h hb1
      refine QW.region (Nat.zero_le _) (PW.regT (by kernel_rfl) ?_)
      refine XK.st (some 21) rfl rfl (sf_move (v := .d (.slice (l0.map (eA byteD)))) rfl rfl ?_)
      obtain ⟨c2, h⟩ := gO_get h
      refine XK.st (some 22) rfl rfl (sf_subL (l := l0) (a := (0 : Int)) (b := (60 : Int)) rfl TT.under_58 TT.slcA_58 lay_A rfl rfl rfl c2 ?_)
      refine XK.st (some 0) rfl rfl (sf_assign (v := .d (.slice ((sub l0 (0 : Int) (60 : Int)).map (eA byteD)))) rfl rfl ?_)
      refine XK.nil (nrm ?_)
      obtain rfl := sO h
      exact ⟨⟨tab [(0, .d (.slice ((sub l0 (0 : Int) (60 : Int)).map (eA byteD)))), (2, .d (.val (.int .i64 epoch2))), (4, .d (.cptr (x1.1.map byteD)))], tabH [], 0, []⟩, View.mk 0 [] _ _ _ rfl rfl (by decide) (And.intro (Imp.of_eq rfl) (And.intro (Imp.of_eq rfl) (And.intro (Imp.of_eq rfl) trivial))) trivial rfl (Nat.zero_le _) rfl, rfl⟩
    · replace h := bF h hb1
      refine QW.skip (Nat.zero_le _) (nrm ?_)
      obtain rfl := sO h
      exact ⟨⟨tab [(0, .d (.slice (l0.map (eA byteD)))), (2, .d (.val (.int .i64 epoch2))), (4, .d (.cptr (x1.1.map byteD)))], tabH [], 0, []⟩, View.mk 0 [] _ _ _ rfl rfl (by decide) (And.intro (Imp.of_eq rfl) (And.intro (Imp.of_eq rfl) (And.intro (Imp.of_eq rfl) trivial))) trivial rfl (Nat.zero_le _) rfl, rfl⟩
  · rintro _ rfl
    refine QW.seq ?_
    refine QW.region (Nat.zero_le _) (PW.regT (by kernel_rfl) ?_)
    refine XK.st (some 23) rfl rfl (sf_move (v := .d (.slice (l0_2.map (eA byteD)))) rfl rfl ?_)
    obtain ⟨c3, h⟩ := gG h
    refine XK.st (some 24) rfl rfl (sf_call rfl rfl TT.enters_47 rfl (N_frzOf l0_2 c3) ?_)
    refine XK.st (some 7) rfl rfl (sf_alloc (l := [.full (([] : (List (Arr 32 UInt8))).map (eA byteD))]) rfl TT.zeroA_60 rfl rfl ?_)
    refine XK.st none rfl rfl (sf_stV (l' := [.d (.slice (l0_2.map (eA byteD)))]) rfl TT.tyA_60 rfl rfl rfl rfl rfl rfl (by simp) rfl ?_)
    refine XK.nil (nrm ?_)
    refine QW.seq ?_
    refine QW.region (Nat.zero_le _) (PW.regT (by kernel_rfl) ?_)
    refine XK.as (some 25) rfl rfl (sf_ldV (v := .agg [.d (.slice (l0_2.map (eA byteD)))]) rfl TT.tyA_60 rfl rfl ⟨⟨by simp, by simp⟩, rfl⟩ ⟨.d (.agg (cFrozen (⟨l0_2⟩ : Frozen))), (Imp.toD rfl), ?_⟩)
    refine XK.st (some 26) rfl rfl (sf_ldC (d := .agg (x1.1.map byteD)) rfl TT.tyA_64 rfl (ldc_all (by rw [List.length_map, x1.2])) ?_)
    obtain ⟨c4, h⟩ := gG h
    refine XK.st (some 27) rfl rfl (sf_call rfl rfl TT.enters_54 rfl (N_frzAdd (⟨l0_2⟩ : Frozen) x1 c4) ?_)
    refine XK.st (some 8) rfl rfl (sf_alloc (l := [.full (([] : (List (Arr 32 UInt8))).map (eA byteD))]) rfl TT.zeroA_60 rfl rfl ?_)
    refine XK.st none rfl rfl (sf_stV (l' := [.d (.slice ((l0_2 ++ [x1]).map (eA byteD)))]) rfl TT.tyA_60 rfl rfl rfl rfl rfl rfl (by simp) rfl ?_)
    refine XK.nil (nrm ?_)
    refine QW.seq ?_
    refine QW.region (Nat.zero_le _) (PW.regT (by kernel_rfl) ?_)
    refine XK.as (some 29) rfl rfl (sf_ldV (v := .agg [.d (.slice (l0_2.map (eA byteD)))]) rfl TT.tyA_60 rfl rfl ⟨⟨by simp, by simp⟩, rfl⟩ ⟨.d (.agg (cFrozen (⟨l0_2⟩ : Frozen))), (Imp.toD rfl), ?_⟩)
    refine XK.st (some 30) rfl rfl (sf_move (v := .d (.val (.int .i64 epoch2))) rfl rfl ?_)
    obtain ⟨c5, h⟩ := gG h
    refine XK.st (some 31) rfl rfl (sf_call rfl rfl TT.enters_55 rfl (N_frzAt (⟨l0_2⟩ : Frozen) epoch2 c5) ?_)
    refine XK.st (some 28) rfl rfl (sf_move (v := .d (.tuple [.agg ((atA l0_2 epoch2).1.map byteD), .val (.bool (decide (0 ≤ epoch2 ∧ epoch2 < (l0_2.length : Int))))])) rfl rfl ?_)
    refine XK.st (some 32) rfl rfl (sf_extract rfl rfl rfl ?_)
    refine XK.st (some 33) rfl rfl (sf_extract rfl rfl rfl ?_)
    refine XK.st (some 9) rfl rfl (sf_alloc (l := (((Arr.rep 32 (0 : UInt8)).1.map byteD).map .d)) rfl TT.zeroA_64 rfl rfl ?_)
    refine XK.st none rfl rfl (sf_stV (l' := (((atA l0_2 epoch2).1.map byteD).map .d)) rfl TT.tyA_64 rfl rfl rfl rfl rfl (len_map2 _) (le_map2 _) (spl_same ((len_map2 _).trans (len_map2 _).symm)) ?_)
    refine XK.st (some 10) rfl rfl (sf_assign (v := .d (.val (.bool (decide (0 ≤ epoch2 ∧ epoch2 < (l0_2.length : Int)))))) rfl rfl ?_)
    refine XK.nil (nrm ?_)
    refine QW.seq ?_
    refine QW.view (s' := ⟨tab [(0, .d (.slice (l0_2.map (eA byteD)))), (2, .d (.val (.int .i64 epoch2))), (4, .d (.cptr (x1.1.map byteD))), (7, .vptr 0 0), (8, .vptr 1 0), (9, .vptr 2 0), (10, .d (.val (.bool (decide (0 ≤ epoch2 ∧ epoch2 < (l0_2.length : Int))))))], tabH [.var [.d (.slice (l0_2.map (eA byteD)))], .var [.d (.slice ((l0_2 ++ [x1]).map (eA byteD)))], .var (((atA l0_2 epoch2).1.map byteD).map .d)], 3, []⟩) (View.mk 3 [0, 1, 2] _ _ _ rfl rfl (by decide) (And.intro (Imp.of_eq rfl) (And.intro (Imp.of_eq rfl) (And.intro (Imp.of_eq rfl) (And.intro (Imp.of_eq rfl) (And.intro (Imp.of_eq rfl) (And.intro (Imp.of_eq rfl) (And.intro (Imp.of_eq rfl) trivial))))))) (And.intro rfl (And.intro rfl (And.intro (by simp only [HO.re, PV.res_d]; rfl) trivial))) rfl (Nat.zero_le _) rfl) (Nat.zero_le _) ?_
    refine QW.region (Nat.zero_le _) (PW.regT (by kernel_rfl) ?_)
    refine XK.st (some 34) rfl rfl (sf_move (v := .d (.val (.int .i64 epoch2))) rfl rfl ?_)
    refine XK.st (some 35) rfl rfl (sf_move (v := .d (.slice (l0_2.map (eA byteD)))) rfl rfl ?_)
    refine XK.st (some 36) rfl rfl (sf_lenL (en := (eA byteD)) (l := l0_2) rfl TT.under_58 rfl ?_)
    refine XK.st (some 37) rfl rfl (sf_call rfl rfl TT.enters_57 rfl (Low_fun epoch2 (l0_2.length : Int)) ?_)
    refine XK.st (some 38) rfl rfl (sf_call rfl rfl TT.enters_56 rfl (High_fun (if epoch2 < (l0_2.length : Int) then epoch2 else (l0_2.length : Int)) (0)) ?_)
    refine XK.st (some 11) rfl rfl (sf_assign (v := .d (.val (.int .i64 (if 0 < (if epoch2 < (l0_2.length : Int) then epoch2 else (l0_2.length : Int)) then (if epoch2 < (l0_2.length : Int) then epoch2 else (l0_2.length : Int)) else 0)))) rfl rfl ?_)
    refine XK.nil (nrm ?_)
    refine QW.seq ?_
    refine QW.region (Nat.zero_le _) (PW.regT (by kernel_rfl) ?_)
    refine XK.st (some 12) rfl rfl (sf_assign (v := .full (([] : (List Int)).map eI)) rfl rfl ?_)
    refine XK.nil (nrm ?_)
    refine QW.seq ?_
    refine QW.seq ?_
    refine QW.region (Nat.zero_le _) (PW.regT (by kernel_rfl) ?_)
    refine XK.st (some 13) rfl rfl (sf_assign (v := .d (.val (.int .i64 (0)))) rfl rfl ?_)
    refine XK.nil (nrm ?_)
    refine QW.block ?_
    refine QW.loop (fun k σ => ∃ l0_4 : (List (Arr 32 UInt8)), ∃ v10_2 : Bool, ∃ v11_2 : Int, ∃ v12_2 : (List Int), ∃ v13 : Int, ∃ v7_0_2 : (List (Arr 32 UInt8)), ∃ v8_0_2 : (List (Arr 32 UInt8)), ∃ v9_2 : (Arr 32 UInt8), k ≤ k0 ∧ run (step_law31_FrozenLooks l0 x1 epoch2) k (.L2 l0_4 v10_2 v11_2 v12_2 v13 v7_0_2 v8_0_2 v9_2) = some r ∧ σ = ⟨tab [(0, .d (.slice (l0_4.map (eA byteD)))), (2, .d (.val (.int .i64 epoch2))), (4, .d (.cptr (x1.1.map byteD))), (7, .vptr 0 0), (8, .vptr 1 0), (9, .vptr 2 0), (10, .d (.val (.bool v10_2))), (11, .d (.val (.int .i64 v11_2))), (12, .own 3 (v12_2.map eI)), (13, .d (.val (.int .i64 v13)))], tabH [.var [.d (.slice (v7_0_2.map (eA byteD)))], .var [.d (.slice (v8_0_2.map (eA byteD)))], .var ((v9_2.1.map byteD).map .d), .spare 1 v12_2.length], 4, []⟩) k0 (Nat.zero_le _) ⟨⟨tab [(0, .d (.slice (l0_2.map (eA byteD)))), (2, .d (.val (.int .i64 epoch2))), (4, .d (.cptr (x1.1.map byteD))), (7, .vptr 0 0), (8, .vptr 1 0), (9, .vptr 2 0), (10, .d (.val (.bool (decide (0 ≤ epoch2 ∧ epoch2 < (l0_2.length : Int)))))), (11, .d (.val (.int .i64 (if 0 < (if epoch2 < (l0_2.length : Int) then epoch2 else (l0_2.length : Int)) then (if epoch2 < (l0_2.length : Int) then epoch2 else (l0_2.length : Int)) else 0)))), (12, .own 3 (([] : (List Int)).map eI)), (13, .d (.val (.int .i64 (0))))], tabH [.var [.d (.slice (l0_2.map (eA byteD)))], .var [.d (.slice ((l0_2 ++ [x1]).map (eA byteD)))], .var (((atA l0_2 epoch2).1.map byteD).map .d), .spare 1 ([] : (List Int)).length], 4, []⟩, View.trans (View.buf 12 1 rfl (Nat.zero_le _)) (View.mk 4 [0, 1, 2, 3] _ _ _ rfl rfl (by decide) (And.intro (Imp.of_eq rfl) (And.intro (Imp.of_eq rfl) (And.intro (Imp.of_eq rfl) (And.intro (Imp.of_eq rfl) (And.intro (Imp.of_eq rfl) (And.intro (Imp.of_eq rfl) (And.intro (Imp.of_eq rfl) (And.intro (Imp.of_eq rfl) (And.intro (Imp.of_eq rfl) (And.intro (Imp.of_eq rfl) trivial)))))))))) (And.intro rfl (And.intro rfl (And.intro (by simp only [HO.re, PV.res_d]; rfl) (And.intro rfl trivial)))) rfl (Nat.zero_le _) rfl), l0_2, decide (0 ≤ epoch2 ∧ epoch2 < (l0_2.length : Int)), (if 0 < (if epoch2 < (l0_2.length : Int) then epoch2 else (l0_2.length : Int)) then (if epoch2 < (l0_2.length : Int) then epoch2 else (l0_2.length : Int)) else 0), ([] : (List Int)), 0, l0_2, l0_2 ++ [x1], atA l0_2 epoch2, Nat.le_refl _, jG h, rfl⟩ ?_
    rintro k6s _ ⟨l0_4, v10_2, v11_2, v12_2, v13, v7_0_2, v8_0_2, v9_2, k6h, h, rfl⟩
    obtain ⟨k6, rfl, h9⟩ := run_succ h; replace h := h9; clear h9
    refine QW.seq ?_
    refine QW.seq ?_
    refine QW.region (Nat.zero_le _) (PW.regT (by kernel_rfl) ?_)
    refine XK.st (some 39) rfl rfl (sf_move (v := .d (.val (.int .i64 v13))) rfl rfl ?_)
    refine XK.st (some 40) rfl rfl (sf_move (v := .d (.slice (l0_4.map (eA byteD)))) rfl rfl ?_)
    refine XK.st (some 41) rfl rfl (sf_lenL (en := (eA byteD)) (l := l0_4) rfl TT.under_58 rfl ?_)
    refine XK.st (some 42) rfl rfl (sf_lss (a := v13) (b := (l0_4.length : Int)) rfl rfl rfl ?_)
    refine XK.nil (nrm ?_)
    refine QW.cond (t := (decide (v13 < (l0_4.length : Int)))) rfl (Nat.zero_le _) (fun hb7 => ?_) (fun hb7 => ?_)
    · replace h := bGT h hb7
      refine QW.skip (Nat.zero_le _) (nrm ?_)
      obtain ⟨v12_4, hq, h⟩ := bG h
      refine QW.seqI (fun s' => s' = ⟨tab [(0, .d (.slice (l0_4.map (eA byteD)))), (2, .d (.val (.int .i64 epoch2))), (4, .d (.cptr (x1.1.map byteD))), (7, .vptr 0 0), (8, .vptr 1 0), (9, .vptr 2 0), (10, .d (.val (.bool v10_2))), (11, .d (.val (.int .i64 v11_2))), (12, .own 3 (v12_4.map eI)), (13, .d (.val (.int .i64 v13)))], tabH [.var [.d (.slice (v7_0_2.map (eA byteD)))], .var [.d (.slice (v8_0_2.map (eA byteD)))], .var ((v9_2.1.map byteD).map .d), .spare 1 v12_4.length], 4, []⟩) ?_ ?_
      · replace h := hq; clear hq
        refine QW.block ?_
        refine QW.seq ?_
        refine QW.region (Nat.zero_le _) (PW.regQ (id := 11) mixedX (M := _) rfl (by kernel_rfl) ?_)
        refine RQ.st (some 45) rfl rfl (sf_move (v := .d (.slice (l0_4.map (eA byteD)))) rfl rfl ⟨⟨rfl, rfl⟩, ?_⟩)
        refine RQ.st (some 46) rfl rfl (sf_move (v := .d (.val (.int .i64 v13))) rfl rfl ⟨⟨rfl, rfl⟩, ?_⟩)
        obtain ⟨c8, h⟩ := gO_get h
        refine RQ.st (some 47) rfl rfl (sf_idxA (l := l0_4) (i := v13) rfl TT.slcA_58 lay_A rfl rfl c8 ⟨⟨rfl, rfl⟩, ?_⟩)
        refine RQ.st (some 48) rfl rfl (sf_ldC (d := .agg ((idx l0_4 v13).1.map byteD)) rfl TT.tyA_64 rfl (ldc_all (by rw [List.length_map, (idx l0_4 v13).2])) ⟨⟨rfl, rfl⟩, ?_⟩)
        refine RQ.st (some 49) rfl rfl (sf_ldC (d := .agg (x1.1.map byteD)) rfl TT.tyA_64 rfl (ldc_all (by rw [List.length_map, x1.2])) ⟨⟨rfl, rfl⟩, ?_⟩)
        refine RQ.st (some 50) rfl rfl (sf_arreq (p := (idx l0_4 v13)) (q := x1) rfl TT.arrB_64_32 rfl rfl ⟨⟨rfl, rfl⟩, ?_⟩)
        refine RQ.nil (nrm ?_)
        refine QW.cond (t := ((idx l0_4 v13).1 == x1.1)) rfl (Nat.zero_le _) (fun hb9 => ?_) (fun hb9 => ?_)
        · replace h := bT h hb9
          refine QW.region (Nat.zero_le _) (PW.regT (by kernel_rfl) ?_)
          refine XK.st (some 51) rfl rfl (sf_move (v := .own 3 (v12_2.map eI)) rfl rfl ?_)
          refine XK.st (some 52) rfl rfl (sf_move (v := .d (.val (.int .i64 v13))) rfl rfl ?_)
          refine XK.st (some 53) rfl rfl (sf_row (en := eI) (l := ([v13] : List Int)) rfl TT.rowA_72 lay_I rfl rfl (by decide) (by simp [solids, partsP, evP, PV.solid, putS_at, tab, unS, unT, unC, asCond, Value.oneCell']) ?_)
          obtain ⟨c10, h⟩ := gO_get h
          refine XK.st (some 54) rfl rfl (sf_appO (en := eI) (l := v12_2) (l2 := ([v13] : List Int)) rfl TT.rowA_72 TT.under_72 rfl lay_I rfl rfl rfl c10 (by decide) ?_)
          refine XK.st (some 12) rfl rfl (sf_assign (v := .own 4 ((v12_2 ++ ([v13] : List Int)).map eI)) rfl rfl ?_)
          refine XK.nil (blN (nrm ?_))
          obtain rfl := sO h
          exact ⟨⟨tab [(0, .d (.slice (l0_4.map (eA byteD)))), (2, .d (.val (.int .i64 epoch2))), (4, .d (.cptr (x1.1.map byteD))), (7, .vptr 0 0), (8, .vptr 1 0), (9, .vptr 2 0), (10, .d (.val (.bool v10_2))), (11, .d (.val (.int .i64 v11_2))), (12, .own 3 ((v12_2 ++ ([v13] : List Int)).map eI)), (13, .d (.val (.int .i64 v13)))], tabH [.var [.d (.slice (v7_0_2.map (eA byteD)))], .var [.d (.slice (v8_0_2.map (eA byteD)))], .var ((v9_2.1.map byteD).map .d), .spare 1 (v12_2 ++ ([v13] : List Int)).length], 4, []⟩, View.mk 4 [0, 1, 2, 4] _ _ _ rfl rfl (by decide) (And.intro (Imp.of_eq rfl) (And.intro (Imp.of_eq rfl) (And.intro (Imp.of_eq rfl) (And.intro (Imp.of_eq rfl) (And.intro (Imp.of_eq rfl) (And.intro (Imp.of_eq rfl) (And.intro (Imp.of_eq rfl) (And.intro (Imp.of_eq rfl) (And.intro (Imp.of_eq rfl) (And.intro (Imp.of_eq rfl) trivial)))))))))) (And.intro rfl (And.intro rfl (And.intro (by simp only [HO.re, PV.res_d]; rfl) (And.intro rfl trivial)))) rfl (Nat.zero_le _) rfl, rfl⟩
        · replace h := bF h hb9
          refine QW.skip (Nat.zero_le _) (blN (nrm ?_))
          obtain rfl := sO h
          exact ⟨⟨tab [(0, .d (.slice (l0_4.map (eA byteD)))), (2, .d (.val (.int .i64 epoch2))), (4, .d (.cptr (x1.1.map byteD))), (7, .vptr 0 0), (8, .vptr 1 0), (9, .vptr 2 0), (10, .d (.val (.bool v10_2))), (11, .d (.val (.int .i64 v11_2))), (12, .own 3 (v12_2.map eI)), (13, .d (.val (.int .i64 v13)))], tabH [.var [.d (.slice (v7_0_2.map (eA byteD)))], .var [.d (.slice (v8_0_2.map (eA byteD)))], .var ((v9_2.1.map byteD).map .d), .spare 1 v12_2.length], 4, []⟩, View.mk 4 [0, 1, 2, 3] _ _ _ rfl rfl (by decide) (And.intro (Imp.of_eq rfl) (And.intro (Imp.of_eq rfl) (And.intro (Imp.of_eq rfl) (And.intro (Imp.of_eq rfl) (And.intro (Imp.of_eq rfl) (And.intro (Imp.of_eq rfl) (And.intro (Imp.of_eq rfl) (And.intro (Imp.of_eq rfl) (And.intro (Imp.of_eq rfl) (And.intro (Imp.of_eq rfl) trivial)))))))))) (And.intro rfl (And.intro rfl (And.intro (by simp only [HO.re, PV.res_d]; rfl) (And.intro rfl trivial)))) rfl (Nat.zero_le _) rfl, rfl⟩
      · rintro _ rfl
        refine QW.region (Nat.zero_le _) (PW.regT (by kernel_rfl) ?_)
        refine XK.st (some 43) rfl rfl (sf_move (v := .d (.val (.int .i64 v13))) rfl rfl ?_)
        obtain ⟨c11, h⟩ := gG h
        refine XK.st (some 44) rfl rfl (sf_add (a := v13) (b := (1 : Int)) rfl rfl rfl c11 ?_)
        refine XK.st (some 13) rfl rfl (sf_assign (v := .d (.val (.int .i64 (v13 + (1 : Int))))) rfl rfl ?_)
        refine XK.nil (nrm ?_)
        exact ⟨k6, by omega, ⟨tab [(0, .d (.slice (l0_4.map (eA byteD)))), (2, .d (.val (.int .i64 epoch2))), (4, .d (.cptr (x1.1.map byteD))), (7, .vptr 0 0), (8, .vptr 1 0), (9, .vptr 2 0), (10, .d (.val (.bool v10_2))), (11, .d (.val (.int .i64 v11_2))), (12, .own 3 (v12_4.map eI)), (13, .d (.val (.int .i64 (v13 + (1 : Int)))))], tabH [.var [.d (.slice (v7_0_2.map (eA byteD)))], .var [.d (.slice (v8_0_2.map (eA byteD)))], .var ((v9_2.1.map byteD).map .d), .spare 1 v12_4.length], 4, []⟩, View.mk 4 [0, 1, 2, 3] _ _ _ rfl rfl (by decide) (And.intro (Imp.of_eq rfl) (And.intro (Imp.of_eq rfl) (And.intro (Imp.of_eq rfl) (And.intro (Imp.of_eq rfl) (And.intro (Imp.of_eq rfl) (And.intro (Imp.of_eq rfl) (And.intro (Imp.of_eq rfl) (And.intro (Imp.of_eq rfl) (And.intro (Imp.of_eq rfl) (And.intro (Imp.of_eq rfl) trivial)))))))))) (And.intro rfl (And.intro rfl (And.intro (by simp only [HO.re, PV.res_d]; rfl) (And.intro rfl trivial)))) rfl (Nat.zero_le _) rfl, l0_4, v10_2, v11_2, v12_4, (v13 + (1 : Int)), v7_0_2, v8_0_2, v9_2, by omega, jG h, rfl⟩
    · replace h := bGF h hb7
      refine QW.exit (Nat.zero_le _) (thX (thX (exE (nrm ?_))))
      refine QW.seq ?_
      refine QW.region (Nat.zero_le _) (PW.regT (by kernel_rfl) ?_)
      refine XK.as (some 55) rfl rfl (sf_ldV (v := .agg [.d (.slice (v7_0_2.map (eA byteD)))]) rfl TT.tyA_60 rfl rfl ⟨⟨by simp, by simp⟩, rfl⟩ ⟨.d (.agg (cFrozen (⟨v7_0_2⟩ : Frozen))), (Imp.toD rfl), ?_⟩)
      refine XK.st (some 56) rfl rfl (sf_ldC (d := .agg (x1.1.map byteD)) rfl TT.tyA_64 rfl (ldc_all (by rw [List.length_map, x1.2])) ?_)
      obtain ⟨c12, h⟩ := gG h
      refine XK.st (some 57) rfl rfl (sf_call rfl rfl TT.enters_58 rfl (N_frzWhere (⟨v7_0_2⟩ : Frozen) x1 c12) ?_)
      refine XK.st (some 14) rfl rfl (sf_assign (v := .d (.slice ((whA v7_0_2 x1).map eI))) rfl rfl ?_)
      refine XK.nil (nrm ?_)
      refine QW.seq ?_
      refine QW.seq ?_
      refine QW.region (Nat.zero_le _) (PW.regT (by kernel_rfl) ?_)
      refine XK.st (some 15) rfl rfl (sf_assign (v := .d (.val (.int .i64 (0)))) rfl rfl ?_)
      refine XK.nil (nrm ?_)
      refine QW.block ?_
      refine QW.loop (fun k σ => ∃ l0_6 : (List (Arr 32 UInt8)), ∃ v10_4 : Bool, ∃ v11_4 : Int, ∃ v12_6 : (List Int), ∃ v14_2 : (List Int), ∃ v15 : Int, ∃ v7_0_4 : (List (Arr 32 UInt8)), ∃ v8_0_4 : (List (Arr 32 UInt8)), ∃ v9_4 : (Arr 32 UInt8), k ≤ k6 ∧ run (step_law31_FrozenLooks l0 x1 epoch2) k (.L4 l0_6 v10_4 v11_4 v12_6 v14_2 v15 v7_0_4 v8_0_4 v9_4) = some r ∧ σ = ⟨tab [(0, .d (.slice (l0_6.map (eA byteD)))), (2, .d (.val (.int .i64 epoch2))), (4, .d (.cptr (x1.1.map byteD))), (7, .vptr 0 0), (8, .vptr 1 0), (9, .vptr 2 0), (10, .d (.val (.bool v10_4))), (11, .d (.val (.int .i64 v11_4))), (12, .own 3 (v12_6.map eI)), (14, .d (.slice (v14_2.map eI))), (15, .d (.val (.int .i64 v15)))], tabH [.var [.d (.slice (v7_0_4.map (eA byteD)))], .var [.d (.slice (v8_0_4.map (eA byteD)))], .var ((v9_4.1.map byteD).map .d), .spare 1 v12_6.length], 4, []⟩) k6 (Nat.zero_le _) ⟨⟨tab [(0, .d (.slice (l0_4.map (eA byteD)))), (2, .d (.val (.int .i64 epoch2))), (4, .d (.cptr (x1.1.map byteD))), (7, .vptr 0 0), (8, .vptr 1 0), (9, .vptr 2 0), (10, .d (.val (.bool v10_2))), (11, .d (.val (.int .i64 v11_2))), (12, .own 3 (v12_2.map eI)), (14, .d (.slice ((whA v7_0_2 x1).map eI))), (15, .d (.val (.int .i64 (0))))], tabH [.var [.d (.slice (v7_0_2.map (eA byteD)))], .var [.d (.slice (v8_0_2.map (eA byteD)))], .var ((v9_2.1.map byteD).map .d), .spare 1 v12_2.length], 4, []⟩, View.mk 4 [0, 1, 2, 3] _ _ _ rfl rfl (by decide) (And.intro (Imp.of_eq rfl) (And.intro (Imp.of_eq rfl) (And.intro (Imp.of_eq rfl) (And.intro (Imp.of_eq rfl) (And.intro (Imp.of_eq rfl) (And.intro (Imp.of_eq rfl) (And.intro (Imp.of_eq rfl) (And.intro (Imp.of_eq rfl) (And.intro (Imp.of_eq rfl) (And.intro (Imp.of_eq rfl) (And.intro (Imp.of_eq rfl) trivial))))))))))) (And.intro rfl (And.intro rfl (And.intro (by simp only [HO.re, PV.res_d]; rfl) (And.intro rfl trivial)))) rfl (Nat.zero_le _) rfl, l0_4, v10_2, v11_2, v12_2, (whA v7_0_2 x1), 0, v7_0_2, v8_0_2, v9_2, Nat.le_refl _, jG h, rfl⟩ ?_
      rintro k13s _ ⟨l0_6, v10_4, v11_4, v12_6, v14_2, v15, v7_0_4, v8_0_4, v9_4, k13h, h, rfl⟩
      obtain ⟨k13, rfl, h9⟩ := run_succ h; replace h := h9; clear h9
      refine QW.seq ?_
      refine QW.seq ?_
      refine QW.region (Nat.zero_le _) (PW.regT (by kernel_rfl) ?_)
      refine XK.st (some 58) rfl rfl (sf_move (v := .d (.val (.int .i64 v15))) rfl rfl ?_)
      refine XK.st (some 59) rfl rfl (sf_move (v := .d (.slice (v14_2.map eI))) rfl rfl ?_)
      refine XK.st (some 60) rfl rfl (sf_lenL (en := eI) (l := v14_2) rfl TT.under_72 rfl ?_)
      refine XK.st (some 61) rfl rfl (sf_lss (a := v15) (b := (v14_2.length : Int)) rfl rfl rfl ?_)
      refine XK.nil (nrm ?_)
      refine QW.cond (t := (decide (v15 < (v14_2.length : Int)))) rfl (Nat.zero_le _) (fun hb14 => ?_) (fun hb14 => ?_)
      · replace h := bGT h hb14
        refine QW.skip (Nat.zero_le _) (nrm ?_)
        refine QW.seq ?_
        refine QW.block ?_
        refine QW.seq ?_
        refine QW.region (Nat.zero_le _) (PW.regQ (id := 17) mixedX (M := _) rfl (by kernel_rfl) ?_)
        refine RQ.st (some 64) rfl rfl (sf_move (v := .d (.slice (v14_2.map eI))) rfl rfl ⟨⟨rfl, rfl⟩, ?_⟩)
        refine RQ.st (some 65) rfl rfl (sf_lenL (en := eI) (l := v14_2) rfl TT.under_72 rfl ⟨⟨rfl, rfl⟩, ?_⟩)
        refine RQ.st (some 66) rfl rfl (sf_move (v := .own 3 (v12_6.map eI)) rfl rfl ⟨⟨rfl, rfl⟩, ?_⟩)
        refine RQ.st (some 67) rfl rfl (sf_lenL (en := eI) (l := v12_6) rfl TT.under_72 rfl ⟨⟨rfl, rfl⟩, ?_⟩)
        refine RQ.st (some 68) rfl rfl (sf_ne (a := (v14_2.length : Int)) (b := (v12_6.length : Int)) rfl rfl rfl ⟨⟨rfl, rfl⟩, ?_⟩)
        refine RQ.st (some 69) rfl rfl (sf_move (v := .d (.val (.bool (!decide ((v14_2.length : Int) = (v12_6.length : Int)))))) rfl rfl ⟨⟨rfl, rfl⟩, ?_⟩)
        refine RQ.gd (v := .d (.slice (v14_2.map eI))) (T := []) (some 70) rfl rfl (by repeat (first | exact trivial | refine And.intro (fun hg => by first | rfl | exact hg | exact (Bool.and_eq_true_iff.mp hg).1 | exact (Bool.and_eq_true_iff.mp (Bool.and_eq_true_iff.mp hg).1).1) ?_)) (fun hg => sf_move (v := .d (.slice (v14_2.map eI))) rfl rfl ⟨⟨rfl, rfl, rfl⟩, rfl, Imp.refl⟩) (fun _ _ hi => nomatch hi) ?_
        refine RQ.gd (v := .d (.val (.int .i64 v15))) (T := []) (some 71) rfl rfl (by repeat (first | exact trivial | refine And.intro (fun hg => by first | rfl | exact hg | exact (Bool.and_eq_true_iff.mp hg).1 | exact (Bool.and_eq_true_iff.mp (Bool.and_eq_true_iff.mp hg).1).1) ?_)) (fun hg => sf_move (v := .d (.val (.int .i64 v15))) rfl rfl ⟨⟨rfl, rfl, rfl⟩, rfl, Imp.refl⟩) (fun _ _ hi => nomatch hi) ?_
        obtain ⟨c15, h⟩ := gG h
        refine RQ.gd (v := .d (.cptr ([.val (.int .i64 (idx v14_2 v15))]))) (T := []) (some 72) rfl rfl (by repeat (first | exact trivial | refine And.intro (fun hg => by first | rfl | exact hg | exact (Bool.and_eq_true_iff.mp hg).1 | exact (Bool.and_eq_true_iff.mp (Bool.and_eq_true_iff.mp hg).1).1) ?_)) (fun hg => sf_idxA (l := v14_2) (i := v15) rfl TT.slcA_72 lay_I rfl rfl (c15 (eqB hg)) ⟨⟨rfl, rfl, rfl⟩, rfl, Imp.refl⟩) (fun _ _ hi => nomatch hi) ?_
        refine RQ.gd (v := .d (.val (.int .i64 (idx v14_2 v15)))) (T := []) (some 73) rfl rfl (by repeat (first | exact trivial | refine And.intro (fun hg => by first | rfl | exact hg | exact (Bool.and_eq_true_iff.mp hg).1 | exact (Bool.and_eq_true_iff.mp (Bool.and_eq_true_iff.mp hg).1).1) ?_)) (fun hg => sf_ldC (d := .val (.int .i64 (idx v14_2 v15))) rfl TT.tyA_3 rfl (LdC.one) ⟨⟨rfl, rfl, rfl⟩, rfl, Imp.refl⟩) (fun _ _ hi => nomatch hi) ?_
        refine RQ.gd (v := .own 3 (v12_6.map eI)) (T := []) (some 74) rfl rfl (by repeat (first | exact trivial | refine And.intro (fun hg => by first | rfl | exact hg | exact (Bool.and_eq_true_iff.mp hg).1 | exact (Bool.and_eq_true_iff.mp (Bool.and_eq_true_iff.mp hg).1).1) ?_)) (fun hg => sf_move (v := .own 3 (v12_6.map eI)) rfl rfl ⟨⟨rfl, rfl, rfl⟩, rfl, Imp.refl⟩) (fun _ _ hi => nomatch hi) ?_
        refine RQ.gd (v := .d (.val (.int .i64 v15))) (T := []) (some 75) rfl rfl (by repeat (first | exact trivial | refine And.intro (fun hg => by first | rfl | exact hg | exact (Bool.and_eq_true_iff.mp hg).1 | exact (Bool.and_eq_true_iff.mp (Bool.and_eq_true_iff.mp hg).1).1) ?_)) (fun hg => sf_move (v := .d (.val (.int .i64 v15))) rfl rfl ⟨⟨rfl, rfl, rfl⟩, rfl, Imp.refl⟩) (fun _ _ hi => nomatch hi) ?_
        obtain ⟨c16, h⟩ := gG h
        refine RQ.gd (v := .d (.cptr ([.val (.int .i64 (idx v12_6 v15))]))) (T := []) (some 76) rfl rfl (by repeat (first | exact trivial | refine And.intro (fun hg => by first | rfl | exact hg | exact (Bool.and_eq_true_iff.mp hg).1 | exact (Bool.and_eq_true_iff.mp (Bool.and_eq_true_iff.mp hg).1).1) ?_)) (fun hg => sf_idxA (l := v12_6) (i := v15) rfl TT.slcA_72 lay_I rfl rfl (c16 (eqB hg)) ⟨⟨rfl, rfl, rfl⟩, rfl, Imp.refl⟩) (fun _ _ hi => nomatch hi) ?_
        refine RQ.gd (v := .d (.val (.int .i64 (idx v12_6 v15)))) (T := []) (some 77) rfl rfl (by repeat (first | exact trivial | refine And.intro (fun hg => by first | rfl | exact hg | exact (Bool.and_eq_true_iff.mp hg).1 | exact (Bool.and_eq_true_iff.mp (Bool.and_eq_true_iff.mp hg).1).1) ?_)) (fun hg => sf_ldC (d := .val (.int .i64 (idx v12_6 v15))) rfl TT.tyA_3 rfl (LdC.one) ⟨⟨rfl, rfl, rfl⟩, rfl, Imp.refl⟩) (fun _ _ hi => nomatch hi) ?_
        refine RQ.gd (v := .d (.val (.bool (!decide ((idx v14_2 v15) = (idx v12_6 v15)))))) (T := []) (some 78) rfl rfl (by repeat (first | exact trivial | refine And.intro (fun hg => by first | rfl | exact hg | exact (Bool.and_eq_true_iff.mp hg).1 | exact (Bool.and_eq_true_iff.mp (Bool.and_eq_true_iff.mp hg).1).1) ?_)) (fun hg => sf_ne (a := (idx v14_2 v15)) (b := (idx v12_6 v15)) rfl rfl rfl ⟨⟨rfl, rfl, rfl⟩, rfl, Imp.refl⟩) (fun _ _ hi => nomatch hi) ?_
        refine RQ.st (some 79) rfl rfl (sf_pickO rfl rfl rfl rfl (fun _ => rfl) (fun hb => by rw [hb]; rfl) ⟨⟨rfl, rfl⟩, ?_⟩)
        refine RQ.nil (nrm ?_)
        refine QW.cond (t := ((!decide ((v14_2.length : Int) = (v12_6.length : Int))) || (!decide ((idx v14_2 v15) = (idx v12_6 v15))))) rfl (Nat.zero_le _) (fun hb17 => ?_) (fun hb17 => ?_)
        · replace h := bGT h hb17
          refine QW.seq ?_
          refine QW.region (Nat.zero_le _) (PW.regT (by kernel_rfl) ?_)
          refine XK.st (some 6) rfl rfl (sf_assign (v := .d (.val (.bool false))) rfl rfl ?_)
          refine XK.nil (nrm ?_)
          refine QW.ret (Nat.zero_le _) (blR (thR (thR (blR (thR ?_)))))
          obtain rfl := sG h
          exact Ends.one (.inr rfl) rfl (ResIs.tmp rfl) rfl rfl
        · replace h := bGF h hb17
          refine QW.skip (Nat.zero_le _) (blN (nrm ?_))
          refine QW.region (Nat.zero_le _) (PW.regT (by kernel_rfl) ?_)
          refine XK.st (some 62) rfl rfl (sf_move (v := .d (.val (.int .i64 v15))) rfl rfl ?_)
          obtain ⟨c18, h⟩ := gG h
          refine XK.st (some 63) rfl rfl (sf_add (a := v15) (b := (1 : Int)) rfl rfl rfl c18 ?_)
          refine XK.st (some 15) rfl rfl (sf_assign (v := .d (.val (.int .i64 (v15 + (1 : Int))))) rfl rfl ?_)
          refine XK.nil (nrm ?_)
          exact ⟨k13, by omega, ⟨tab [(0, .d (.slice (l0_6.map (eA byteD)))), (2, .d (.val (.int .i64 epoch2))), (4, .d (.cptr (x1.1.map byteD))), (7, .vptr 0 0), (8, .vptr 1 0), (9, .vptr 2 0), (10, .d (.val (.bool v10_4))), (11, .d (.val (.int .i64 v11_4))), (12, .own 3 (v12_6.map eI)), (14, .d (.slice (v14_2.map eI))), (15, .d (.val (.int .i64 (v15 + (1 : Int)))))], tabH [.var [.d (.slice (v7_0_4.map (eA byteD)))], .var [.d (.slice (v8_0_4.map (eA byteD)))], .var ((v9_4.1.map byteD).map .d), .spare 1 v12_6.length], 4, []⟩, View.mk 4 [0, 1, 2, 3] _ _ _ rfl rfl (by decide) (And.intro (Imp.of_eq rfl) (And.intro (Imp.of_eq rfl) (And.intro (Imp.of_eq rfl) (And.intro (Imp.of_eq rfl) (And.intro (Imp.of_eq rfl) (And.intro (Imp.of_eq rfl) (And.intro (Imp.of_eq rfl) (And.intro (Imp.of_eq rfl) (And.intro (Imp.of_eq rfl) (And.intro (Imp.of_eq rfl) (And.intro (Imp.of_eq rfl) trivial))))))))))) (And.intro rfl (And.intro rfl (And.intro (by simp only [HO.re, PV.res_d]; rfl) (And.intro rfl trivial)))) rfl (Nat.zero_le _) rfl, l0_6, v10_4, v11_4, v12_6, v14_2, (v15 + (1 : Int)), v7_0_4, v8_0_4, v9_4, by omega, jG h, rfl⟩
      · replace h := bGF h hb14
        refine QW.exit (Nat.zero_le _) (thX (thX (exE (nrm ?_))))
        refine QW.seq ?_
        refine QW.region (Nat.zero_le _) (PW.regT (by kernel_rfl) ?_)
        refine XK.st (some 80) rfl rfl (sf_move (v := .d (.val (.int .i64 epoch2))) rfl rfl ?_)
        refine XK.st (some 81) rfl rfl (sf_geq (a := epoch2) (b := (0 : Int)) rfl rfl rfl ?_)
        refine XK.st (some 82) rfl rfl (sf_move (v := .d (.val (.bool (decide ((0 : Int) ≤ epoch2))))) rfl rfl ?_)
        refine XK.gd (v := .d (.val (.int .i64 epoch2))) (T := []) (some 83) rfl rfl (by repeat (first | exact trivial | refine And.intro (fun hg => by first | rfl | exact hg | exact (Bool.and_eq_true_iff.mp hg).1 | exact (Bool.and_eq_true_iff.mp (Bool.and_eq_true_iff.mp hg).1).1) ?_)) (fun hg => sf_move (v := .d (.val (.int .i64 epoch2))) rfl rfl ⟨⟨rfl, rfl, rfl⟩, rfl, Imp.refl⟩) (fun _ _ hi => nomatch hi) ?_
        refine XK.gd (v := .d (.slice (l0_6.map (eA byteD)))) (T := []) (some 84) rfl rfl (by repeat (first | exact trivial | refine And.intro (fun hg => by first | rfl | exact hg | exact (Bool.and_eq_true_iff.mp hg).1 | exact (Bool.and_eq_true_iff.mp (Bool.and_eq_true_iff.mp hg).1).1) ?_)) (fun hg => sf_move (v := .d (.slice (l0_6.map (eA byteD)))) rfl rfl ⟨⟨rfl, rfl, rfl⟩, rfl, Imp.refl⟩) (fun _ _ hi => nomatch hi) ?_
        refine XK.gd (v := .d (.val (.int .i64 (l0_6.length : Int)))) (T := []) (some 85) rfl rfl (by repeat (first | exact trivial | refine And.intro (fun hg => by first | rfl | exact hg | exact (Bool.and_eq_true_iff.mp hg).1 | exact (Bool.and_eq_true_iff.mp (Bool.and_eq_true_iff.mp hg).1).1) ?_)) (fun hg => sf_lenL (en := (eA byteD)) (l := l0_6) rfl TT.under_58 rfl ⟨⟨rfl, rfl, rfl⟩, rfl, Imp.refl⟩) (fun _ _ hi => nomatch hi) ?_
        refine XK.gd (v := .d (.val (.bool (decide (epoch2 < (l0_6.length : Int)))))) (T := []) (some 86) rfl rfl (by repeat (first | exact trivial | refine And.intro (fun hg => by first | rfl | exact hg | exact (Bool.and_eq_true_iff.mp hg).1 | exact (Bool.and_eq_true_iff.mp (Bool.and_eq_true_iff.mp hg).1).1) ?_)) (fun hg => sf_lss (a := epoch2) (b := (l0_6.length : Int)) rfl rfl rfl ⟨⟨rfl, rfl, rfl⟩, rfl, Imp.refl⟩) (fun _ _ hi => nomatch hi) ?_
        refine XK.st (some 87) rfl rfl (sf_pickA rfl rfl rfl rfl (fun hb => by rw [hb]; rfl) (fun _ => rfl) ?_)
        refine XK.st (some 16) rfl rfl (sf_assign (v := .d (.val (.bool ((decide ((0 : Int) ≤ epoch2)) && (decide (epoch2 < (l0_6.length : Int))))))) rfl rfl ?_)
        refine XK.nil (nrm ?_)
        refine QW.seq ?_
        refine QW.seq ?_
        refine QW.region (Nat.zero_le _) (PW.regQ (id := 20) mixedX (M := _) rfl (by kernel_rfl) ?_)
        refine RQ.st (some 88) rfl rfl (sf_move (v := .d (.val (.bool v10_4))) rfl rfl ⟨⟨rfl, rfl⟩, ?_⟩)
        refine RQ.st (some 89) rfl rfl (sf_move (v := .d (.val (.bool ((decide ((0 : Int) ≤ epoch2)) && (decide (epoch2 < (l0_6.length : Int))))))) rfl rfl ⟨⟨rfl, rfl⟩, ?_⟩)
        refine RQ.st (some 90) rfl rfl (sf_bne (a := v10_4) (b := ((decide ((0 : Int) ≤ epoch2)) && (decide (epoch2 < (l0_6.length : Int))))) rfl TT.under_4 rfl rfl ⟨⟨rfl, rfl⟩, ?_⟩)
        refine RQ.st (some 91) rfl rfl (sf_move (v := .d (.val (.bool (!(v10_4 == ((decide ((0 : Int) ≤ epoch2)) && (decide (epoch2 < (l0_6.length : Int))))))))) rfl rfl ⟨⟨rfl, rfl⟩, ?_⟩)
        refine RQ.gd (v := .d (.val (.bool v10_4))) (T := []) (some 92) rfl rfl (by repeat (first | exact trivial | refine And.intro (fun hg => by first | rfl | exact hg | exact (Bool.and_eq_true_iff.mp hg).1 | exact (Bool.and_eq_true_iff.mp (Bool.and_eq_true_iff.mp hg).1).1) ?_)) (fun hg => sf_move (v := .d (.val (.bool v10_4))) rfl rfl ⟨⟨rfl, rfl, rfl⟩, rfl, Imp.refl⟩) (fun _ _ hi => nomatch hi) ?_
        refine RQ.gd (v := .d (.val (.bool v10_4))) (T := []) (some 93) rfl rfl (by repeat (first | exact trivial | refine And.intro (fun hg => by first | rfl | exact hg | exact (Bool.and_eq_true_iff.mp hg).1 | exact (Bool.and_eq_true_iff.mp (Bool.and_eq_true_iff.mp hg).1).1) ?_)) (fun hg => sf_move (v := .d (.val (.bool v10_4))) rfl rfl ⟨⟨rfl, rfl, rfl⟩, rfl, Imp.refl⟩) (fun _ _ hi => nomatch hi) ?_
        refine RQ.gd (v := .d (.agg (v9_4.1.map byteD))) (T := [2]) (some 94) rfl rfl (by repeat (first | exact trivial | refine And.intro (fun hg => by first | rfl | exact hg | exact (Bool.and_eq_true_iff.mp hg).1 | exact (Bool.and_eq_true_iff.mp (Bool.and_eq_true_iff.mp hg).1).1) ?_)) (fun hg => sf_ldV (v := .agg ((v9_4.1.map byteD).map .d)) rfl TT.tyA_64 rfl rfl (ldv_all (by decide)) ⟨⟨rfl, rfl, rfl⟩, rfl, imp_arr⟩) (fun _ i hi => by simp only [List.mem_singleton] at hi; subst hi; decide) ?_
        refine RQ.gd (v := .d (.slice (l0_6.map (eA byteD)))) (T := []) (some 95) rfl rfl (by repeat (first | exact trivial | refine And.intro (fun hg => by first | rfl | exact hg | exact (Bool.and_eq_true_iff.mp hg).1 | exact (Bool.and_eq_true_iff.mp (Bool.and_eq_true_iff.mp hg).1).1) ?_)) (fun hg => sf_move (v := .d (.slice (l0_6.map (eA byteD)))) rfl rfl ⟨⟨rfl, rfl, rfl⟩, rfl, Imp.refl⟩) (fun _ _ hi => nomatch hi) ?_
        refine RQ.gd (v := .d (.val (.int .i64 epoch2))) (T := []) (some 96) rfl rfl (by repeat (first | exact trivial | refine And.intro (fun hg => by first | rfl | exact hg | exact (Bool.and_eq_true_iff.mp hg).1 | exact (Bool.and_eq_true_iff.mp (Bool.and_eq_true_iff.mp hg).1).1) ?_)) (fun hg => sf_move (v := .d (.val (.int .i64 epoch2))) rfl rfl ⟨⟨rfl, rfl, rfl⟩, rfl, Imp.refl⟩) (fun _ _ hi => nomatch hi) ?_
        obtain ⟨c19, h⟩ := gG h
        refine RQ.gd (v := .d (.cptr ((idx l0_6 epoch2).1.map byteD))) (T := []) (some 97) rfl rfl (by repeat (first | exact trivial | refine And.intro (fun hg => by first | rfl | exact hg | exact (Bool.and_eq_true_iff.mp hg).1 | exact (Bool.and_eq_true_iff.mp (Bool.and_eq_true_iff.mp hg).1).1) ?_)) (fun hg => sf_idxA (l := l0_6) (i := epoch2) rfl TT.slcA_58 lay_A rfl rfl (c19 hg) ⟨⟨rfl, rfl, rfl⟩, rfl, Imp.refl⟩) (fun _ _ hi => nomatch hi) ?_
        refine RQ.gd (v := .d (.agg ((idx l0_6 epoch2).1.map byteD))) (T := []) (some 98) rfl rfl (by repeat (first | exact trivial | refine And.intro (fun hg => by first | rfl | exact hg | exact (Bool.and_eq_true_iff.mp hg).1 | exact (Bool.and_eq_true_iff.mp (Bool.and_eq_true_iff.mp hg).1).1) ?_)) (fun hg => sf_ldC (d := .agg ((idx l0_6 epoch2).1.map byteD)) rfl TT.tyA_64 rfl (ldc_all (by rw [List.length_map, (idx l0_6 epoch2).2])) ⟨⟨rfl, rfl, rfl⟩, rfl, Imp.refl⟩) (fun _ _ hi => nomatch hi) ?_
        refine RQ.gd (v := .d (.val (.bool (!(v9_4.1 == (idx l0_6 epoch2).1))))) (T := []) (some 99) rfl rfl (by repeat (first | exact trivial | refine And.intro (fun hg => by first | rfl | exact hg | exact (Bool.and_eq_true_iff.mp hg).1 | exact (Bool.and_eq_true_iff.mp (Bool.and_eq_true_iff.mp hg).1).1) ?_)) (fun hg => sf_arrne (p := v9_4) (q := (idx l0_6 epoch2)) rfl TT.arrB_64_32 rfl rfl ⟨⟨rfl, rfl, rfl⟩, rfl, Imp.refl⟩) (fun _ _ hi => nomatch hi) ?_
        refine RQ.gp (some 100) rfl rfl rfl rfl rfl rfl (fun h => h) (fun hg hb => by first | (rw [hg, hb]; rfl) | (simp only [hg, hb]; rfl) | simp_all) (fun _ _ => rfl) (v10_4 && (!(v9_4.1 == (idx l0_6 epoch2).1))) (bif_and _ _) ?_
        refine RQ.st (some 101) rfl rfl (sf_pickO rfl rfl rfl rfl (fun _ => rfl) (fun hb => by rw [hb]; rfl) ⟨⟨rfl, rfl⟩, ?_⟩)
        refine RQ.st (some 102) rfl rfl (sf_move (v := .d (.val (.bool ((!(v10_4 == ((decide ((0 : Int) ≤ epoch2)) && (decide (epoch2 < (l0_6.length : Int)))))) || (v10_4 && (!(v9_4.1 == (idx l0_6 epoch2).1))))))) rfl rfl ⟨⟨rfl, rfl⟩, ?_⟩)
        refine RQ.gd (v := .d (.val (.bool v10_4))) (T := []) (some 103) rfl rfl (by repeat (first | exact trivial | refine And.intro (fun hg => by first | rfl | exact hg | exact (Bool.and_eq_true_iff.mp hg).1 | exact (Bool.and_eq_true_iff.mp (Bool.and_eq_true_iff.mp hg).1).1) ?_)) (fun hg => sf_move (v := .d (.val (.bool v10_4))) rfl rfl ⟨⟨rfl, rfl, rfl⟩, rfl, Imp.refl⟩) (fun _ _ hi => nomatch hi) ?_
        refine RQ.gd (v := .d (.val (.bool (!v10_4)))) (T := []) (some 104) rfl rfl (by repeat (first | exact trivial | refine And.intro (fun hg => by first | rfl | exact hg | exact (Bool.and_eq_true_iff.mp hg).1 | exact (Bool.and_eq_true_iff.mp (Bool.and_eq_true_iff.mp hg).1).1) ?_)) (fun hg => sf_not rfl rfl ⟨⟨rfl, rfl, rfl⟩, rfl, Imp.refl⟩) (fun _ _ hi => nomatch hi) ?_
        refine RQ.gd (v := .d (.val (.bool (!v10_4)))) (T := []) (some 105) rfl rfl (by repeat (first | exact trivial | refine And.intro (fun hg => by first | rfl | exact hg | exact (Bool.and_eq_true_iff.mp hg).1 | exact (Bool.and_eq_true_iff.mp (Bool.and_eq_true_iff.mp hg).1).1) ?_)) (fun hg => sf_move (v := .d (.val (.bool (!v10_4)))) rfl rfl ⟨⟨rfl, rfl, rfl⟩, rfl, Imp.refl⟩) (fun _ _ hi => nomatch hi) ?_
        refine RQ.gd (v := .d (.agg (v9_4.1.map byteD))) (T := [2]) (some 106) rfl rfl (by repeat (first | exact trivial | refine And.intro (fun hg => by first | rfl | exact hg | exact (Bool.and_eq_true_iff.mp hg).1 | exact (Bool.and_eq_true_iff.mp (Bool.and_eq_true_iff.mp hg).1).1) ?_)) (fun hg => sf_ldV (v := .agg ((v9_4.1.map byteD).map .d)) rfl TT.tyA_64 rfl rfl (ldv_all (by decide)) ⟨⟨rfl, rfl, rfl⟩, rfl, imp_arr⟩) (fun _ i hi => by simp only [List.mem_singleton] at hi; subst hi; decide) ?_
        refine RQ.gd (v := .d (.agg ((Arr.rep 32 (0 : UInt8)).1.map byteD))) (T := []) (some 107) rfl rfl (by repeat (first | exact trivial | refine And.intro (fun hg => by first | rfl | exact hg | exact (Bool.and_eq_true_iff.mp hg).1 | exact (Bool.and_eq_true_iff.mp (Bool.and_eq_true_iff.mp hg).1).1) ?_)) (fun hg => sf_build (v := .agg [.d (.val (.int .u8 ((0 : UInt8).toNat : Int))), .d (.val (.int .u8 ((0 : UInt8).toNat : Int))), .d (.val (.int .u8 ((0 : UInt8).toNat : Int))), .d (.val (.int .u8 ((0 : UInt8).toNat : Int))), .d (.val (.int .u8 ((0 : UInt8).toNat : Int))), .d (.val (.int .u8 ((0 : UInt8).toNat : Int))), .d (.val (.int .u8 ((0 : UInt8).toNat : Int))), .d (.val (.int .u8 ((0 : UInt8).toNat : Int))), .d (.val (.int .u8 ((0 : UInt8).toNat : Int))), .d (.val (.int .u8 ((0 : UInt8).toNat : Int))), .d (.val (.int .u8 ((0 : UInt8).toNat : Int))), .d (.val (.int .u8 ((0 : UInt8).toNat : Int))), .d (.val (.int .u8 ((0 : UInt8).toNat : Int))), .d (.val (.int .u8 ((0 : UInt8).toNat : Int))), .d (.val (.int .u8 ((0 : UInt8).toNat : Int))), .d (.val (.int .u8 ((0 : UInt8).toNat : Int))), .d (.val (.int .u8 ((0 : UInt8).toNat : Int))), .d (.val (.int .u8 ((0 : UInt8).toNat : Int))), .d (.val (.int .u8 ((0 : UInt8).toNat : Int))), .d (.val (.int .u8 ((0 : UInt8).toNat : Int))), .d (.val (.int .u8 ((0 : UInt8).toNat : Int))), .d (.val (.int .u8 ((0 : UInt8).toNat : Int))), .d (.val (.int .u8 ((0 : UInt8).toNat : Int))), .d (.val (.int .u8 ((0 : UInt8).toNat : Int))), .d (.val (.int .u8 ((0 : UInt8).toNat : Int))), .d (.val (.int .u8 ((0 : UInt8).toNat : Int))), .d (.val (.int .u8 ((0 : UInt8).toNat : Int))), .d (.val (.int .u8 ((0 : UInt8).toNat : Int))), .d (.val (.int .u8 ((0 : UInt8).toNat : Int))), .d (.val (.int .u8 ((0 : UInt8).toNat : Int))), .d (.val (.int .u8 ((0 : UInt8).toNat : Int))), .d (.val (.int .u8 ((0 : UInt8).toNat : Int)))]) rfl (by rw [TT.bldA_64]; simp [buildP, fillP, placeOf, partsQ, evP, PV.solid, PV.cellsP, Value.oneCell', spl, cellV, ofVal, List.all, putS_at, tab, unS, unT, asCond, unC]) (by rw [TT.bldA_64]; rfl) ⟨⟨rfl, rfl, rfl⟩, rfl, (Imp.toD rfl)⟩) (fun _ _ hi => nomatch hi) ?_
        refine RQ.gd (v := .d (.val (.bool (!(v9_4.1 == (Arr.rep 32 (0 : UInt8)).1))))) (T := []) (some 108) rfl rfl (by repeat (first | exact trivial | refine And.intro (fun hg => by first | rfl | exact hg | exact (Bool.and_eq_true_iff.mp hg).1 | exact (Bool.and_eq_true_iff.mp (Bool.and_eq_true_iff.mp hg).1).1) ?_)) (fun hg => sf_arrne (p := v9_4) (q := (Arr.rep 32 (0 : UInt8))) rfl TT.arrB_64_32 rfl rfl ⟨⟨rfl, rfl, rfl⟩, rfl, Imp.refl⟩) (fun _ _ hi => nomatch hi) ?_
        refine RQ.gp (some 109) rfl rfl rfl rfl rfl rfl (fun h => h) (fun hg hb => by first | (rw [hg, hb]; rfl) | (simp only [hg, hb]; rfl) | simp_all) (fun _ _ => rfl) ((!v10_4) && (!(v9_4.1 == (Arr.rep 32 (0 : UInt8)).1))) (bif_and _ _) ?_
        refine RQ.st (some 110) rfl rfl (sf_pickO rfl rfl rfl rfl (fun _ => rfl) (fun hb => by rw [hb]; rfl) ⟨⟨rfl, rfl⟩, ?_⟩)
        refine RQ.st (some 111) rfl rfl (sf_move (v := .d (.val (.bool (((!(v10_4 == ((decide ((0 : Int) ≤ epoch2)) && (decide (epoch2 < (l0_6.length : Int)))))) || (v10_4 && (!(v9_4.1 == (idx l0_6 epoch2).1)))) || ((!v10_4) && (!(v9_4.1 == (Arr.rep 32 (0 : UInt8)).1))))))) rfl rfl ⟨⟨rfl, rfl⟩, ?_⟩)
        refine RQ.gd (v := .d (.slice (v14_2.map eI))) (T := []) (some 112) rfl rfl (by repeat (first | exact trivial | refine And.intro (fun hg => by first | rfl | exact hg | exact (Bool.and_eq_true_iff.mp hg).1 | exact (Bool.and_eq_true_iff.mp (Bool.and_eq_true_iff.mp hg).1).1) ?_)) (fun hg => sf_move (v := .d (.slice (v14_2.map eI))) rfl rfl ⟨⟨rfl, rfl, rfl⟩, rfl, Imp.refl⟩) (fun _ _ hi => nomatch hi) ?_
        refine RQ.gd (v := .d (.val (.int .i64 (v14_2.length : Int)))) (T := []) (some 113) rfl rfl (by repeat (first | exact trivial | refine And.intro (fun hg => by first | rfl | exact hg | exact (Bool.and_eq_true_iff.mp hg).1 | exact (Bool.and_eq_true_iff.mp (Bool.and_eq_true_iff.mp hg).1).1) ?_)) (fun hg => sf_lenL (en := eI) (l := v14_2) rfl TT.under_72 rfl ⟨⟨rfl, rfl, rfl⟩, rfl, Imp.refl⟩) (fun _ _ hi => nomatch hi) ?_
        refine RQ.gd (v := .own 3 (v12_6.map eI)) (T := []) (some 114) rfl rfl (by repeat (first | exact trivial | refine And.intro (fun hg => by first | rfl | exact hg | exact (Bool.and_eq_true_iff.mp hg).1 | exact (Bool.and_eq_true_iff.mp (Bool.and_eq_true_iff.mp hg).1).1) ?_)) (fun hg => sf_move (v := .own 3 (v12_6.map eI)) rfl rfl ⟨⟨rfl, rfl, rfl⟩, rfl, Imp.refl⟩) (fun _ _ hi => nomatch hi) ?_
        refine RQ.gd (v := .d (.val (.int .i64 (v12_6.length : Int)))) (T := []) (some 115) rfl rfl (by repeat (first | exact trivial | refine And.intro (fun hg => by first | rfl | exact hg | exact (Bool.and_eq_true_iff.mp hg).1 | exact (Bool.and_eq_true_iff.mp (Bool.and_eq_true_iff.mp hg).1).1) ?_)) (fun hg => sf_lenL (en := eI) (l := v12_6) rfl TT.under_72 rfl ⟨⟨rfl, rfl, rfl⟩, rfl, Imp.refl⟩) (fun _ _ hi => nomatch hi) ?_
        refine RQ.gd (v := .d (.val (.bool (!decide ((v14_2.length : Int) = (v12_6.length : Int)))))) (T := []) (some 116) rfl rfl (by repeat (first | exact trivial | refine And.intro (fun hg => by first | rfl | exact hg | exact (Bool.and_eq_true_iff.mp hg).1 | exact (Bool.and_eq_true_iff.mp (Bool.and_eq_true_iff.mp hg).1).1) ?_)) (fun hg => sf_ne (a := (v14_2.length : Int)) (b := (v12_6.length : Int)) rfl rfl rfl ⟨⟨rfl, rfl, rfl⟩, rfl, Imp.refl⟩) (fun _ _ hi => nomatch hi) ?_
        refine RQ.st (some 117) rfl rfl (sf_pickO rfl rfl rfl rfl (fun _ => rfl) (fun hb => by rw [hb]; rfl) ⟨⟨rfl, rfl⟩, ?_⟩)
        refine RQ.nil (nrm ?_)
        refine QW.cond (t := ((((!(v10_4 == ((decide ((0 : Int) ≤ epoch2)) && (decide (epoch2 < (l0_6.length : Int)))))) || (v10_4 && (!(v9_4.1 == (idx l0_6 epoch2).1)))) || ((!v10_4) && (!(v9_4.1 == (Arr.rep 32 (0 : UInt8)).1)))) || (!decide ((v14_2.length : Int) = (v12_6.length : Int))))) rfl (Nat.zero_le _) (fun hb20 => ?_) (fun hb20 => ?_)
        · replace h := bGT h hb20
          refine QW.seq ?_
          refine QW.region (Nat.zero_le _) (PW.regT (by kernel_rfl) ?_)
          refine XK.st (some 6) rfl rfl (sf_assign (v := .d (.val (.bool false))) rfl rfl ?_)
          refine XK.nil (nrm ?_)
          refine QW.ret (Nat.zero_le _) (thR ?_)
          obtain rfl := sG h
          exact Ends.one (.inr rfl) rfl (ResIs.tmp rfl) rfl rfl
        · replace h := bGF h hb20
          refine QW.skip (Nat.zero_le _) (nrm ?_)
          refine QW.seq ?_
          refine QW.region (Nat.zero_le _) (PW.regK (id := 22) mixedX (M := _) rfl (by kernel_rfl) ?_)
          refine RK.st (some 118) rfl rfl (sf_row (en := (eA byteD)) (l := ([] : List (Arr 32 UInt8))) rfl TT.rowA_58 lay_A rfl rfl (by decide) (by simp [solids, partsP, evP, PV.solid, putS_at, tab, unS, unT, unC, asCond, Value.oneCell']) ?_)
          refine RK.st (some 119) rfl rfl (sf_move (v := .d (.slice (l0_6.map (eA byteD)))) rfl rfl ?_)
          obtain ⟨c21, h⟩ := gG h
          refine RK.st (some 120) rfl rfl (sf_appF (en := (eA byteD)) (l := ([] : List (Arr 32 UInt8))) (l2 := l0_6) rfl TT.rowA_58 TT.under_58 rfl lay_A rfl rfl ⟨c21, fun _ => rfl⟩ (by decide) ?_)
          refine RK.st (some 121) rfl rfl (sf_ldC (d := .agg (x1.1.map byteD)) rfl TT.tyA_64 rfl (ldc_all (by rw [List.length_map, x1.2])) ?_)
          refine RK.st (some 122) rfl rfl (sf_row (en := (eA byteD)) (l := ([x1] : List (Arr 32 UInt8))) rfl TT.rowA_58 lay_A rfl rfl (by decide) (by simp [solids, partsP, evP, PV.solid, putS_at, tab, unS, unT, unC, asCond, Value.oneCell']) ?_)
          obtain ⟨c22, h⟩ := gG h
          refine RK.st (some 123) rfl rfl (sf_appO (en := (eA byteD)) (l := (([] : List (Arr 32 UInt8)) ++ l0_6)) (l2 := ([x1] : List (Arr 32 UInt8))) rfl TT.rowA_58 TT.under_58 rfl lay_A rfl rfl rfl c22 (by decide) ?_)
          refine RK.st (some 17) rfl rfl (sf_assign (v := .own 5 (((([] : List (Arr 32 UInt8)) ++ l0_6) ++ ([x1] : List (Arr 32 UInt8))).map (eA byteD))) rfl rfl ?_)
          refine RK.nil ⟨RecsOK.ord [0, 0, 2, 0, 0, 2, 0] (by simp [okL]) (by rfl) (by simp), (nrm ?_)⟩
          refine QW.seq ?_
          refine QW.region (Nat.zero_le _) (PW.regQ (id := 23) mixedX (M := _) rfl (by kernel_rfl) ?_)
          refine RQ.st (some 124) rfl rfl (sf_call rfl rfl TT.enters_46 rfl awake31_fun ⟨⟨rfl, rfl⟩, ?_⟩)
          refine RQ.st (some 125) rfl rfl (sf_move (v := .d (.val (.bool true))) rfl rfl ⟨⟨rfl, rfl⟩, ?_⟩)
          refine RQ.oa (v := .d (.agg (cFrozen (⟨v7_0_4⟩ : Frozen)))) (T := [0]) (some 126) rfl rfl (sf_ldV (v := .agg [.d (.slice (v7_0_4.map (eA byteD)))]) rfl TT.tyA_60 rfl rfl ⟨⟨by simp, by simp⟩, rfl⟩ ⟨⟨rfl, rfl, rfl⟩, rfl, (Imp.toD rfl)⟩) ?_
          obtain ⟨c23, h⟩ := gG h
          refine RQ.oa (v := .d (.val (.int .i64 (v7_0_4.length : Int)))) (T := []) (some 127) rfl rfl (sf_call rfl rfl TT.enters_59 rfl (N_frzLen (⟨v7_0_4⟩ : Frozen) c23) ⟨⟨rfl, rfl, rfl⟩, rfl, Imp.refl⟩) ?_
          refine RQ.oa (v := .d (.slice (l0_6.map (eA byteD)))) (T := []) (some 128) rfl rfl (sf_move (v := .d (.slice (l0_6.map (eA byteD)))) rfl rfl ⟨⟨rfl, rfl, rfl⟩, rfl, Imp.refl⟩) ?_
          refine RQ.oa (v := .d (.val (.int .i64 (l0_6.length : Int)))) (T := []) (some 129) rfl rfl (sf_lenL (en := (eA byteD)) (l := l0_6) rfl TT.under_58 rfl ⟨⟨rfl, rfl, rfl⟩, rfl, Imp.refl⟩) ?_
          refine RQ.oa (v := .d (.val (.bool (decide ((v7_0_4.length : Int) = (l0_6.length : Int)))))) (T := []) (some 130) rfl rfl (sf_eq (a := (v7_0_4.length : Int)) (b := (l0_6.length : Int)) rfl rfl rfl ⟨⟨rfl, rfl, rfl⟩, rfl, Imp.refl⟩) ?_
          refine RQ.st (some 131) rfl rfl (sf_pickT rfl rfl rfl rfl rfl rfl ⟨⟨rfl, rfl⟩, ?_⟩)
          refine RQ.st (some 132) rfl rfl (sf_move (v := .d (.val (.bool (decide ((v7_0_4.length : Int) = (l0_6.length : Int)))))) rfl rfl ⟨⟨rfl, rfl⟩, ?_⟩)
          refine RQ.gd (v := .d (.agg (cFrozen (⟨v7_0_4⟩ : Frozen)))) (T := [0]) (some 133) rfl rfl (by repeat (first | exact trivial | refine And.intro (fun hg => by first | rfl | exact hg | exact (Bool.and_eq_true_iff.mp hg).1 | exact (Bool.and_eq_true_iff.mp (Bool.and_eq_true_iff.mp hg).1).1) ?_)) (fun hg => sf_ldV (v := .agg [.d (.slice (v7_0_4.map (eA byteD)))]) rfl TT.tyA_60 rfl rfl ⟨⟨by simp, by simp⟩, rfl⟩ ⟨⟨rfl, rfl, rfl⟩, rfl, (Imp.toD rfl)⟩) (fun _ i hi => by simp only [List.mem_singleton] at hi; subst hi; decide) ?_
          obtain ⟨c24, h⟩ := gG h
          refine RQ.gd (v := .d (.slice (v7_0_4.map (eA byteD)))) (T := []) (some 134) rfl rfl (by repeat (first | exact trivial | refine And.intro (fun hg => by first | rfl | exact hg | exact (Bool.and_eq_true_iff.mp hg).1 | exact (Bool.and_eq_true_iff.mp (Bool.and_eq_true_iff.mp hg).1).1) ?_)) (fun hg => sf_call rfl rfl TT.enters_60 rfl (N_frzAll (⟨v7_0_4⟩ : Frozen) (c24 (eqB hg))) ⟨⟨rfl, rfl, rfl⟩, rfl, Imp.refl⟩) (fun _ _ hi => nomatch hi) ?_
          refine RQ.gd (v := .d (.slice (l0_6.map (eA byteD)))) (T := []) (some 135) rfl rfl (by repeat (first | exact trivial | refine And.intro (fun hg => by first | rfl | exact hg | exact (Bool.and_eq_true_iff.mp hg).1 | exact (Bool.and_eq_true_iff.mp (Bool.and_eq_true_iff.mp hg).1).1) ?_)) (fun hg => sf_move (v := .d (.slice (l0_6.map (eA byteD)))) rfl rfl ⟨⟨rfl, rfl, rfl⟩, rfl, Imp.refl⟩) (fun _ _ hi => nomatch hi) ?_
          obtain ⟨c25, h⟩ := gG h
          refine RQ.gd (v := .d (.val (.bool ((sums v7_0_4).flatten == (sums l0_6).flatten)))) (T := []) (some 136) rfl rfl (by repeat (first | exact trivial | refine And.intro (fun hg => by first | rfl | exact hg | exact (Bool.and_eq_true_iff.mp hg).1 | exact (Bool.and_eq_true_iff.mp (Bool.and_eq_true_iff.mp hg).1).1) ?_)) (fun hg => sf_call rfl rfl TT.enters_52 rfl (N_refSame v7_0_4 l0_6 (c25 (eqB hg))) ⟨⟨rfl, rfl, rfl⟩, rfl, Imp.refl⟩) (fun _ _ hi => nomatch hi) ?_
          refine RQ.st (some 137) rfl rfl (sf_pickA rfl rfl rfl rfl (fun hb => by rw [hb]; rfl) (fun _ => rfl) ⟨⟨rfl, rfl⟩, ?_⟩)
          refine RQ.st (some 138) rfl rfl (sf_move (v := .d (.val (.bool ((decide ((v7_0_4.length : Int) = (l0_6.length : Int))) && ((sums v7_0_4).flatten == (sums l0_6).flatten))))) rfl rfl ⟨⟨rfl, rfl⟩, ?_⟩)
          refine RQ.gd (v := .d (.agg (cFrozen (⟨v8_0_4⟩ : Frozen)))) (T := [1]) (some 139) rfl rfl (by repeat (first | exact trivial | refine And.intro (fun hg => by first | rfl | exact hg | exact (Bool.and_eq_true_iff.mp hg).1 | exact (Bool.and_eq_true_iff.mp (Bool.and_eq_true_iff.mp hg).1).1) ?_)) (fun hg => sf_ldV (v := .agg [.d (.slice (v8_0_4.map (eA byteD)))]) rfl TT.tyA_60 rfl rfl ⟨⟨by simp, by simp⟩, rfl⟩ ⟨⟨rfl, rfl, rfl⟩, rfl, (Imp.toD rfl)⟩) (fun _ i hi => by simp only [List.mem_singleton] at hi; subst hi; decide) ?_
          obtain ⟨c26, h⟩ := gG h
          refine RQ.gd (v := .d (.slice (v8_0_4.map (eA byteD)))) (T := []) (some 140) rfl rfl (by repeat (first | exact trivial | refine And.intro (fun hg => by first | rfl | exact hg | exact (Bool.and_eq_true_iff.mp hg).1 | exact (Bool.and_eq_true_iff.mp (Bool.and_eq_true_iff.mp hg).1).1) ?_)) (fun hg => sf_call rfl rfl TT.enters_60 rfl (N_frzAll (⟨v8_0_4⟩ : Frozen) (c26 hg)) ⟨⟨rfl, rfl, rfl⟩, rfl, Imp.refl⟩) (fun _ _ hi => nomatch hi) ?_
          refine RQ.gd (v := .own 5 (((([] : List (Arr 32 UInt8)) ++ l0_6) ++ ([x1] : List (Arr 32 UInt8))).map (eA byteD))) (T := []) (some 141) rfl rfl (by repeat (first | exact trivial | refine And.intro (fun hg => by first | rfl | exact hg | exact (Bool.and_eq_true_iff.mp hg).1 | exact (Bool.and_eq_true_iff.mp (Bool.and_eq_true_iff.mp hg).1).1) ?_)) (fun hg => sf_move (v := .own 5 (((([] : List (Arr 32 UInt8)) ++ l0_6) ++ ([x1] : List (Arr 32 UInt8))).map (eA byteD))) rfl rfl ⟨⟨rfl, rfl, rfl⟩, rfl, Imp.refl⟩) (fun _ _ hi => nomatch hi) ?_
          obtain ⟨c27, h⟩ := gG h
          refine RQ.gd (v := .d (.val (.bool ((sums v8_0_4).flatten == (sums ((([] : List (Arr 32 UInt8)) ++ l0_6) ++ ([x1] : List (Arr 32 UInt8)))).flatten)))) (T := []) (some 142) rfl rfl (by repeat (first | exact trivial | refine And.intro (fun hg => by first | rfl | exact hg | exact (Bool.and_eq_true_iff.mp hg).1 | exact (Bool.and_eq_true_iff.mp (Bool.and_eq_true_iff.mp hg).1).1) ?_)) (fun hg => sf_call rfl rfl TT.enters_52 rfl (N_refSame v8_0_4 ((([] : List (Arr 32 UInt8)) ++ l0_6) ++ ([x1] : List (Arr 32 UInt8))) (c27 hg)) ⟨⟨rfl, rfl, rfl⟩, rfl, Imp.refl⟩) (fun _ _ hi => nomatch hi) ?_
          refine RQ.st (some 143) rfl rfl (sf_pickA rfl rfl rfl rfl (fun hb => by rw [hb]; rfl) (fun _ => rfl) ⟨⟨rfl, rfl⟩, ?_⟩)
          refine RQ.st (some 144) rfl rfl (sf_move (v := .d (.val (.bool (((decide ((v7_0_4.length : Int) = (l0_6.length : Int))) && ((sums v7_0_4).flatten == (sums l0_6).flatten)) && ((sums v8_0_4).flatten == (sums ((([] : List (Arr 32 UInt8)) ++ l0_6) ++ ([x1] : List (Arr 32 UInt8)))).flatten))))) rfl rfl ⟨⟨rfl, rfl⟩, ?_⟩)
          refine RQ.gd (v := .d (.agg (cFrozen (⟨v7_0_4⟩ : Frozen)))) (T := [0]) (some 145) rfl rfl (by repeat (first | exact trivial | refine And.intro (fun hg => by first | rfl | exact hg | exact (Bool.and_eq_true_iff.mp hg).1 | exact (Bool.and_eq_true_iff.mp (Bool.and_eq_true_iff.mp hg).1).1) ?_)) (fun hg => sf_ldV (v := .agg [.d (.slice (v7_0_4.map (eA byteD)))]) rfl TT.tyA_60 rfl rfl ⟨⟨by simp, by simp⟩, rfl⟩ ⟨⟨rfl, rfl, rfl⟩, rfl, (Imp.toD rfl)⟩) (fun _ i hi => by simp only [List.mem_singleton] at hi; subst hi; decide) ?_
          refine RQ.gd (v := .d (.val (.int .i64 epoch2))) (T := []) (some 146) rfl rfl (by repeat (first | exact trivial | refine And.intro (fun hg => by first | rfl | exact hg | exact (Bool.and_eq_true_iff.mp hg).1 | exact (Bool.and_eq_true_iff.mp (Bool.and_eq_true_iff.mp hg).1).1) ?_)) (fun hg => sf_move (v := .d (.val (.int .i64 epoch2))) rfl rfl ⟨⟨rfl, rfl, rfl⟩, rfl, Imp.refl⟩) (fun _ _ hi => nomatch hi) ?_
          obtain ⟨c28, h⟩ := gG h
          refine RQ.gd (v := .d (.slice ((v7_0_4.drop (sinceN epoch2 v7_0_4.length)).map (eA byteD)))) (T := []) (some 147) rfl rfl (by repeat (first | exact trivial | refine And.intro (fun hg => by first | rfl | exact hg | exact (Bool.and_eq_true_iff.mp hg).1 | exact (Bool.and_eq_true_iff.mp (Bool.and_eq_true_iff.mp hg).1).1) ?_)) (fun hg => sf_call rfl rfl TT.enters_61 rfl (N_frzSince (⟨v7_0_4⟩ : Frozen) epoch2 (c28 hg)) ⟨⟨rfl, rfl, rfl⟩, rfl, Imp.refl⟩) (fun _ _ hi => nomatch hi) ?_
          refine RQ.gd (v := .d (.slice (l0_6.map (eA byteD)))) (T := []) (some 148) rfl rfl (by repeat (first | exact trivial | refine And.intro (fun hg => by first | rfl | exact hg | exact (Bool.and_eq_true_iff.mp hg).1 | exact (Bool.and_eq_true_iff.mp (Bool.and_eq_true_iff.mp hg).1).1) ?_)) (fun hg => sf_move (v := .d (.slice (l0_6.map (eA byteD)))) rfl rfl ⟨⟨rfl, rfl, rfl⟩, rfl, Imp.refl⟩) (fun _ _ hi => nomatch hi) ?_
          refine RQ.gd (v := .d (.val (.int .i64 v11_4))) (T := []) (some 149) rfl rfl (by repeat (first | exact trivial | refine And.intro (fun hg => by first | rfl | exact hg | exact (Bool.and_eq_true_iff.mp hg).1 | exact (Bool.and_eq_true_iff.mp (Bool.and_eq_true_iff.mp hg).1).1) ?_)) (fun hg => sf_move (v := .d (.val (.int .i64 v11_4))) rfl rfl ⟨⟨rfl, rfl, rfl⟩, rfl, Imp.refl⟩) (fun _ _ hi => nomatch hi) ?_
          obtain ⟨c29, h⟩ := gG h
          refine RQ.gd (v := .d (.slice ((sub l0_6 v11_4 (l0_6.length : Int)).map (eA byteD)))) (T := []) (some 150) rfl rfl (by repeat (first | exact trivial | refine And.intro (fun hg => by first | rfl | exact hg | exact (Bool.and_eq_true_iff.mp hg).1 | exact (Bool.and_eq_true_iff.mp (Bool.and_eq_true_iff.mp hg).1).1) ?_)) (fun hg => sf_subL (l := l0_6) (a := v11_4) (b := (l0_6.length : Int)) rfl TT.under_58 TT.slcA_58 lay_A rfl rfl rfl (c29 hg) ⟨⟨rfl, rfl, rfl⟩, rfl, Imp.refl⟩) (fun _ _ hi => nomatch hi) ?_
          obtain ⟨c30, h⟩ := gG h
          refine RQ.gd (v := .d (.val (.bool ((sums (v7_0_4.drop (sinceN epoch2 v7_0_4.length))).flatten == (sums (sub l0_6 v11_4 (l0_6.length : Int))).flatten)))) (T := []) (some 151) rfl rfl (by repeat (first | exact trivial | refine And.intro (fun hg => by first | rfl | exact hg | exact (Bool.and_eq_true_iff.mp hg).1 | exact (Bool.and_eq_true_iff.mp (Bool.and_eq_true_iff.mp hg).1).1) ?_)) (fun hg => sf_call rfl rfl TT.enters_52 rfl (N_refSame (v7_0_4.drop (sinceN epoch2 v7_0_4.length)) (sub l0_6 v11_4 (l0_6.length : Int)) (c30 hg)) ⟨⟨rfl, rfl, rfl⟩, rfl, Imp.refl⟩) (fun _ _ hi => nomatch hi) ?_
          refine RQ.st (some 152) rfl rfl (sf_pickA rfl rfl rfl rfl (fun hb => by rw [hb]; rfl) (fun _ => rfl) ⟨⟨rfl, rfl⟩, ?_⟩)
          refine RQ.st (some 6) rfl rfl (sf_assign (v := .d (.val (.bool ((((decide ((v7_0_4.length : Int) = (l0_6.length : Int))) && ((sums v7_0_4).flatten == (sums l0_6).flatten)) && ((sums v8_0_4).flatten == (sums ((([] : List (Arr 32 UInt8)) ++ l0_6) ++ ([x1] : List (Arr 32 UInt8)))).flatten)) && ((sums (v7_0_4.drop (sinceN epoch2 v7_0_4.length))).flatten == (sums (sub l0_6 v11_4 (l0_6.length : Int))).flatten))))) rfl rfl ⟨⟨rfl, rfl⟩, ?_⟩)
          refine RQ.nil (nrm ?_)
          refine QW.ret (Nat.zero_le _) ?_
          obtain rfl := sG h
          exact Ends.one (.inr rfl) rfl (ResIs.tmp rfl) rfl rfl

end Go.Proofs.Ytonlehebfeilmaa.K
