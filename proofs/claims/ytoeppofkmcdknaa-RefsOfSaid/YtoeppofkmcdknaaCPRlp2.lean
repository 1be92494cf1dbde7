/- Package rlp: what is laid, and that it is read again. -/
import Derived.Test.YtoeppofkmcdknaaCPRlp
namespace Go.Proofs.Ytoeppofkmcdknaa.K
open Go Go.RowKit
set_option linter.unusedSimpArgs false
set_option linter.unusedVariables false
mutual
def ienc : Item → List UInt8
  | ⟨l, s, r⟩ => if l = false then (if s.length = 1 ∧ (s.getD 0 0).toNat < 128 then s else hd false s.length ++ s) else hd true (iencs r).length ++ iencs r
def iencs : List Item → List UInt8
  | [] => []
  | x :: r => ienc x ++ iencs r
end
mutual
def icnt : Item → Nat
  | ⟨_, _, r⟩ => 1 + icnts r
def icnts : List Item → Nat
  | [] => 0
  | x :: r => icnt x + icnts r
end
theorem ienc_eq (x : Item) : ienc x = if x.fList = false then (if x.fS.length = 1 ∧ (x.fS.getD 0 0).toNat < 128 then x.fS else hd false x.fS.length ++ x.fS) else hd true (iencs x.fL).length ++ iencs x.fL := by
  cases x; simp only [ienc]
theorem icnt_eq (x : Item) : icnt x = 1 + icnts x.fL := by cases x; simp only [icnt]
theorem icnt_pos (x : Item) : 1 ≤ icnt x := by rw [icnt_eq]; omega
def RT : Nat → Item → Prop
  | 0, _ => False
  | n + 1, x => (x.fList = false → x.fL = []) ∧ (x.fList = true → x.fS = []) ∧ ∀ y ∈ x.fL, RT n y
theorem hd_ne (l : Bool) (k : Nat) : hd l k ≠ [] := by unfold hd; split <;> simp
theorem hd_len (l : Bool) (k : Nat) : (hd l k).length = if k < 56 then 1 else 1 + (bigN k).length := by
  unfold hd; split <;> simp; omega
theorem big5 {k : Nat} (h : k ≤ 2 ^ 32) : (bigN k).length ≤ 5 := bigN_len 5 k (by rw [show (256 : Nat) ^ 5 = 1099511627776 from by decide]; omega)
theorem hd_le (l : Bool) {k : Nat} (h : k ≤ 2 ^ 32) : (hd l k).length ≤ 6 := by
  have := big5 h
  rw [hd_len]; split <;> omega
theorem Head_nat (l : Bool) {k : Nat} (h : k ≤ 2 ^ 32) : g_rlp_Head (k : Int) l = some (hd l k) := by
  rw [Head_ok]
  have : (minI (maxI (k : Int) 0) 4294967296).toNat = k := by unfold minI maxI; repeat' split <;> omega
  rw [this]
theorem ienc_ne (x : Item) : ienc x ≠ [] := by
  rw [ienc_eq]
  split
  · split
    · rename_i h; intro e; rw [e] at h; simp at h
    · intro e; exact hd_ne _ _ (List.append_eq_nil_iff.1 e).1
  · intro e; exact hd_ne _ _ (List.append_eq_nil_iff.1 e).1
theorem one_ok {d c : Nat} (hd : d ≤ 64) (hc : c + 1 ≤ 4096) : g_rlp_counter_one (d : Int) ⟨(c : Int)⟩ = some (.inl (), ⟨((c + 1 : Nat) : Int)⟩) := by
  unfold g_rlp_counter_one
  simp only
  rw [gO_pos (by unfold inI; omega), decide_eq_true (by omega), decide_eq_true (by omega)]
  rfl
theorem must_true (e : Int) : g_rlp_must true e = some (.inl ()) := rfl
theorem put_L1 (f : Item → Int → counter → Option (((List UInt8) ⊕ Int) × counter)) (x : Item) (d : Nat) (hd64 : d ≤ 64) (c0 : counter)
    (hf : ∀ y ∈ x.fL, ∀ c : Nat, (ienc y).length ≤ 2 ^ 32 → c + icnt y ≤ 4096 → f y ((d + 1 : Nat) : Int) ⟨(c : Int)⟩ = some (.inl (ienc y), ⟨((c + icnt y : Nat) : Int)⟩)) (hl : x.fL.length ≤ 9223372036854775807) (k : Nat) : ∀ (i : Nat) (acc : List UInt8) (c : Nat), k + i = x.fL.length →
    (acc ++ iencs (x.fL.drop i)).length ≤ 2 ^ 32 → c + icnts (x.fL.drop i) ≤ 4096 →
    Comes (step_rlp_counter_put f x (d : Int) c0) (.L1 acc (i : Int) (c : Int)) (.inl (hd true (acc ++ iencs (x.fL.drop i)).length ++ (acc ++ iencs (x.fL.drop i))), ⟨((c + icnts (x.fL.drop i) : Nat) : Int)⟩) := by
  induction k with
  | zero =>
    intro i acc c hi hlen hc
    refine Comes.stop ?_
    rw [List.drop_eq_nil_of_le (by omega)] at hlen ⊢
    simp only [iencs, icnts, List.append_nil, Nat.add_zero] at hlen ⊢
    have := hd_le true hlen
    simp only [step_rlp_counter_put]
    rw [decide_eq_false (by omega), cond_false, Head_nat true hlen, Option.bind_some, gO_pos (by omega)]
  | succ k ih =>
    intro i acc c hi hlen hc
    have h1 : i < x.fL.length := by omega
    rw [List.drop_eq_getElem_cons h1] at hlen hc ⊢
    simp only [iencs, icnts] at hlen hc ⊢
    simp only [List.length_append] at hlen
    have e := hf x.fL[i] (List.getElem_mem h1) c (by omega) (by omega)
    have := ih (i + 1) (acc ++ ienc x.fL[i]) (c + icnt x.fL[i]) (by omega) (by simp only [List.length_append]; omega) (by omega)
    rw [List.append_assoc, Nat.add_assoc] at this
    refine Comes.next ?_ this
    simp only [step_rlp_counter_put]
    rw [decide_eq_true (by omega), cond_true, gO_pos (by omega), gO_pos (by unfold inI; omega), idx_natL h1, show (d : Int) + 1 = ((d + 1 : Nat) : Int) by omega, e, Option.bind_some]
    simp only
    rw [gO_pos (by omega), gO_pos (by unfold inI; omega)]
    rfl
theorem put_rec : ∀ (n m : Nat) (x : Item) (d c : Nat), OKn n x → RT n x → n ≤ m → d + n ≤ 65 → (ienc x).length ≤ 2 ^ 32 → c + icnt x ≤ 4096 →
    rec_rlp_counter_put m x (d : Int) ⟨(c : Int)⟩ = some (.inl (ienc x), ⟨((c + icnt x : Nat) : Int)⟩)
  | 0, _, _, _, _, h, _, _, _, _, _ => h.elim
  | n + 1, 0, _, _, _, _, _, hm, _, _, _ => by omega
  | n + 1, m + 1, x, d, c, hok, hr, hm, hd, hlen, hc => by
    show theC (step_rlp_counter_put (rec_rlp_counter_put m) x (d : Int) ⟨(c : Int)⟩) .S = _
    refine theC_eq ?_
    have h1 := one_ok (d := d) (c := c) (by omega) (by have := icnt_pos x; omega)
    cases hl : x.fList with
    | false =>
      have hnil := hr.1 hl
      have e0 : icnt x = 1 := by rw [icnt_eq, hnil]; rfl
      rw [ienc_eq, if_pos hl] at hlen ⊢
      rw [e0]
      refine Comes.stop ?_
      simp only [step_rlp_counter_put, h1, Option.bind_some, hnil, hl]
      simp only [Bool.not_false, Bool.or_true, must_true, Option.bind_some, List.length_nil, cond_true]
      rw [show (decide (((0 : Nat) : Int) = 0) || false) = true from rfl, must_true, Option.bind_some]
      simp only
      rw [gO_pos (by intro h; have := of_decide_eq_true h; omega)]
      by_cases h2 : x.fS.length = 1
      · have e1 : idx x.fS (0 : Int) = x.fS.getD 0 0 := by
          show idx x.fS ((0 : Nat) : Int) = _
          rw [idx_natL (by omega)]
          simp [List.getD_eq_getElem?_getD, List.getElem?_eq_getElem (show 0 < x.fS.length by omega)]
        by_cases h3 : (x.fS.getD 0 0).toNat < 128
        · rw [if_pos ⟨h2, h3⟩, decide_eq_true (by omega), e1, decide_eq_true (by omega)]; rfl
        · rw [if_neg (fun h => h3 h.2)] at hlen ⊢
          rw [decide_eq_true (by omega), e1, decide_eq_false (by omega), Bool.and_false, cond_false, Head_nat false (by omega), Option.bind_some, gO_pos (by rw [List.length_append] at hlen; omega)]
      · rw [if_neg (fun h => h2 h.1)] at hlen ⊢
        rw [List.length_append] at hlen
        rw [decide_eq_false (by omega), Bool.false_and, cond_false, Head_nat false (by omega), Option.bind_some, gO_pos (by omega)]
    | true =>
      have hnil := hr.2.1 hl
      rw [ienc_eq, if_neg (by rw [hl]; simp)] at hlen ⊢
      rw [List.length_append] at hlen
      have key := put_L1 (rec_rlp_counter_put m) x d (by omega) ⟨(c : Int)⟩ (fun y hy c hl hc => put_rec n m y (d + 1) c (hok.2.2 y hy) (hr.2.2 y hy) (by omega) (by omega) hl hc) hok.1 x.fL.length 0 [] (c + 1) rfl (by simp only [List.nil_append, List.drop_zero]; omega) (by rw [icnt_eq] at hc; rw [List.drop_zero]; omega)
      rw [List.drop_zero, List.nil_append] at key
      rw [icnt_eq, ← Nat.add_assoc]
      refine Comes.next ?_ key
      simp only [step_rlp_counter_put, h1, Option.bind_some, hnil, hl]
      simp only [beq_self_eq_true, Bool.true_or, Bool.or_true, must_true, Option.bind_some, Bool.not_true, cond_false]
      rfl
theorem Put_ok {n : Nat} (x : Item) (hok : OKn n x) (hr : RT n x) (hn : n ≤ 65) (hlen : (ienc x).length ≤ 2 ^ 32) (hc : icnt x ≤ 4096) : g_rlp_Put x = some (ienc x, 0) := by
  have : g_rlp_counter_put x 0 ⟨0⟩ = some (.inl (ienc x), ⟨((0 + icnt x : Nat) : Int)⟩) := theR_eq n fun m hm => put_rec n m x 0 0 hok hr hm (by omega) hlen (by omega)
  unfold g_rlp_Put
  rw [this]; rfl
end Go.Proofs.Ytoeppofkmcdknaa.K
