/- RlpHeads: what the law reckons is true. -/
import Derived.Test.YtonlehebfeilmaaPRlp3
import Derived.Test.YtonlehebfeilmaaWRlpHeads
namespace Go.Proofs.Ytonlehebfeilmaa.K
open Go Go.RowKit
set_option linter.unusedSimpArgs false
set_option linter.unusedVariables false

theorem Count_L1 (f : Item → Option Int) (x : Item) (hf : ∀ y ∈ x.fL, icnt y ≤ 2 ^ 62 → f y = some ((icnt y : Nat) : Int)) (hv : x.fL.length ≤ 9223372036854775807) (k : Nat) : ∀ (i a : Nat), k + i = x.fL.length → a + icnts (x.fL.drop i) ≤ 2 ^ 62 →
    Comes (step_rlp_Count f x) (.L1 (a : Int) (i : Int)) (((a + icnts (x.fL.drop i) : Nat) : Int)) := by
  induction k with
  | zero =>
    intro i a hi ha
    refine Comes.stop ?_
    rw [List.drop_eq_nil_of_le (by omega)]
    simp only [step_rlp_Count, icnts, Nat.add_zero]
    rw [decide_eq_false (by omega), cond_false]
  | succ k ih =>
    intro i a hi ha
    have h1 : i < x.fL.length := by omega
    rw [List.drop_eq_getElem_cons h1] at ha ⊢
    simp only [icnts] at ha ⊢
    have := ih (i + 1) (a + icnt x.fL[i]) (by omega) (by omega)
    rw [Nat.add_assoc] at this
    refine Comes.next ?_ this
    simp only [step_rlp_Count]
    rw [decide_eq_true (by omega), cond_true, gO_pos (by omega), idx_nat h1, hf _ (List.getElem_mem h1) (by omega), Option.bind_some, wI_nat i (by omega), show (a : Int) + ((icnt x.fL[i] : Nat) : Int) = ((a + icnt x.fL[i] : Nat) : Int) by omega, wI_in (by unfold inI; omega)]
theorem Count_rec : ∀ (n m : Nat) (x : Item), OKn n x → n ≤ m → icnt x ≤ 2 ^ 62 → rec_rlp_Count m x = some ((icnt x : Nat) : Int)
  | n + 1, 0, x, h, hm, _ => by omega
  | n + 1, m + 1, x, h, hm, hc => by
    show theC (step_rlp_Count (rec_rlp_Count m) x) .S = _
    refine theC_eq ?_
    rw [icnt_eq] at hc ⊢
    exact Comes.next rfl (Count_L1 (rec_rlp_Count m) x (fun y hy => Count_rec n m y (h.2.2 y hy) (by omega)) h.1 _ 0 1 rfl (by rw [List.drop_zero]; exact hc))
theorem Count_ok {n : Nat} (x : Item) (h : OKn n x) (hc : icnt x ≤ 2 ^ 62) : g_rlp_Count x = some ((icnt x : Nat) : Int) := theR_eq n fun m hm => Count_rec n m x h hm hc

def catI : Item := ⟨false, [99, 97, 116], []⟩
def dogI : Item := ⟨false, [100, 111, 103], []⟩
def petI : Item := ⟨true, [], [catI, dogI]⟩
theorem petI_enc : ienc petI = [200, 131, 99, 97, 116, 131, 100, 111, 103] := by
  simp [petI, catI, dogI, ienc, iencs, hd, hdC]
theorem petI_cnt : icnt petI = 3 := by simp [petI, catI, dogI, icnt, icnts]
theorem petI_ok : OKn 3 petI := by simp [petI, catI, dogI, OKn]
theorem petI_rt : RT 3 petI := by simp [petI, catI, dogI, RT]
def aI : Item := ⟨false, [97], []⟩
theorem aI_enc : ienc aI = [97] := by simp [aI, ienc]
theorem awake05_ok : g_law05_awake = some true := by
  unfold g_law05_awake
  simp only [g_rlp_Text, Option.bind_some, g_rlp_List, List.nil_append]
  rw [gO_pos (by decide), Option.bind_some]
  have e : (⟨true, [], [⟨false, [99, 97, 116], []⟩, ⟨false, [100, 111, 103], []⟩]⟩ : Item) = petI := rfl
  rw [e, Put_ok petI petI_ok petI_rt (by decide) (by rw [petI_enc]; decide) (by rw [petI_cnt]; decide), Option.bind_some]
  have hw := Whole_ok petI petI_rt (by decide) (by rw [petI_enc]; decide) (by rw [petI_cnt]; decide)
  have hg := Get_ok aI [57] (n := 1) (by simp [aI, RT]) (by decide) (by rw [aI_enc]; decide) (by rw [aI_enc]; decide) (by simp [aI, icnt, icnts])
  rw [aI_enc] at hg
  have hh : g_rlp_Head 56 false = some (hd false 56) := Head_nat false (by decide)
  have hd56 : hd false 56 = [184, 56] := by
    simp [hd, hdC, bigN]
  rw [petI_enc] at hw ⊢
  rw [hw, Option.bind_some, show ([97, 57] : List UInt8) = [97] ++ [57] from rfl, hg, Option.bind_some]
  simp only [beq_self_eq_true, decide_true, Bool.and_self, cond_true, Same_ok petI petI petI_ok, sm_self, Option.bind_some, List.length_cons, List.length_nil, Count_ok petI petI_ok (by rw [petI_cnt]; decide), petI_cnt, hh, hd56]
  rfl

theorem RlpHeads_true (q : Four) (n : Nat) (ha : OKn n q.fA) (hb : OKn n q.fB) : g_law05_RlpHeads q = some true := by
  unfold g_law05_RlpHeads g_law05_light
  obtain ⟨va, hva⟩ := Size_ok q.fA ha
  obtain ⟨vb, hvb⟩ := Size_ok q.fB hb
  rw [hva, hvb, awake05_ok]
  simp only [Option.bind_some]
  cases hx : (decide (va.1 ≤ 90) && decide (va.2 ≤ 300)) with
  | false => rfl
  | true =>
    simp only [Bool.not_true, beq_self_eq_true, cond_true, Option.bind_some, Bool.false_or]
    cases hy : (decide (vb.1 ≤ 90) && decide (vb.2 ≤ 300)) with
    | false => rfl
    | true =>
      have hk : ∃ k : Nat, (if (0 : Int) < (if q.fN < 4294967296 then q.fN else 4294967296) then (if q.fN < 4294967296 then q.fN else 4294967296) else 0) = (k : Int) ∧ (minI (maxI q.fN 0) 4294967296).toNat = k ∧ k < 2 ^ 62 :=
        ⟨(minI (maxI q.fN 0) 4294967296).toNat, by unfold minI maxI; repeat' split <;> omega, rfl, by unfold minI maxI; repeat' split <;> omega⟩
      obtain ⟨k, k1, k2, k3⟩ := hk
      have hA := ha
      have hab : OKn (n + 1) ⟨true, [], [q.fA, q.fB]⟩ := ⟨by simp, by simp, by simp [ha, hb]⟩
      have hxx : OKn 1 ⟨false, [120], []⟩ := ⟨by simp, by simp, by simp⟩
      simp only [Bool.not_true, cond_false, Low_ok, High_ok, Option.bind_some, cond_true, beq_self_eq_true, k1, Head_ok, k2, RHead_ok k q.fList k3, Bool.true_and, Same_ok q.fA q.fB ha, RSame_ok q.fA q.fB ha, g_rlp_Text, Same_ok _ _ hxx, sm_self, g_rlp_List, List.nil_append, Bool.and_true, Same_ok _ _ hab]
      rw [gO_pos (by simp)]
      simp only [Option.bind_some, Same_ok _ _ hab, sm_self, beq_self_eq_true, cond_true]
theorem RlpHeads_fun (k : Int) (b : Bool) (x y : Item) (n m : Nat) (hx : OKn n x) (hy : OKn m y) : Fun Try.prog 11 [.agg ([.val (.int .i64 k)] ++ ([.val (.bool b)] ++ (cItem x ++ (cItem y ++ []))))] (.val (.bool true)) := by
  have h := sim_law05_RlpHeads ⟨k, b, x, y⟩ true (RlpHeads_true ⟨k, b, x, y⟩ (n + m) (hx.mono (by omega)) (hy.mono (by omega)))
  have e : cFour ⟨k, b, x, y⟩ = [.val (.int .i64 k)] ++ ([.val (.bool b)] ++ (cItem x ++ (cItem y ++ []))) := by simp [cFour, cItem]
  rw [← e]
  exact h
end Go.Proofs.Ytonlehebfeilmaa.K
