/- WireGets: what any bytes are read as, and what the law reckons. -/
import Derived.Test.YtonlehebfeilmaaPWire4
namespace Go.Proofs.Ytonlehebfeilmaa.K
open Go Go.RowKit
set_option linter.unusedSimpArgs false
set_option linter.unusedVariables false


/-! ### More items than may be -/
theorem one_big {d c : Nat} (hd : d ≤ 64) (hc : c = 4096) : g_rlp_counter_one (d : Int) ⟨(c : Int)⟩ = some (.inr 4, ⟨((c + 1 : Nat) : Int)⟩) := by
  unfold g_rlp_counter_one
  simp only
  rw [gO_pos (by unfold inI; omega), decide_eq_true (by omega), decide_eq_false (by omega)]
  rfl
theorem big_L1 (n : Nat) (F : Nat → Item → Int → counter → Option (((List UInt8) ⊕ Int) × counter)) (x : Item) (d : Nat) (hd64 : d ≤ 64) (c0 : counter)
    (hf : ∀ m, n ≤ m → ∀ y ∈ x.fL, ∀ c : Nat, (ienc y).length ≤ 2 ^ 32 → c + icnt y ≤ 4096 → F m y ((d + 1 : Nat) : Int) ⟨(c : Int)⟩ = some (.inl (ienc y), ⟨((c + icnt y : Nat) : Int)⟩))
    (hg : ∀ y ∈ x.fL, ∀ c : Nat, (ienc y).length ≤ 2 ^ 32 → c ≤ 4096 → 4096 < c + icnt y → ∃ c', ∀ m, n ≤ m → F m y ((d + 1 : Nat) : Int) ⟨(c : Int)⟩ = some (.inr 4, c')) (hl : x.fL.length ≤ 9223372036854775807) (k : Nat) : ∀ (i : Nat) (acc : List UInt8) (c : Nat), k + i = x.fL.length →
    (acc ++ iencs (x.fL.drop i)).length ≤ 2 ^ 32 → c ≤ 4096 → 4096 < c + icnts (x.fL.drop i) →
    ∃ c', ∀ m, n ≤ m → Comes (step_rlp_counter_put (F m) x (d : Int) c0) (.L1 acc (i : Int) (c : Int)) (.inr 4, c') := by
  induction k with
  | zero =>
    intro i acc c hi hlen hc hb
    rw [List.drop_eq_nil_of_le (by omega)] at hb
    simp only [icnts] at hb; omega
  | succ k ih =>
    intro i acc c hi hlen hc hb
    have h1 : i < x.fL.length := by omega
    rw [List.drop_eq_getElem_cons h1] at hlen hb
    simp only [iencs, icnts] at hlen hb
    simp only [List.length_append] at hlen
    by_cases hy : c + icnt x.fL[i] ≤ 4096
    · obtain ⟨c', h2⟩ := ih (i + 1) (acc ++ ienc x.fL[i]) (c + icnt x.fL[i]) (by omega) (by simp only [List.length_append]; omega) hy (by omega)
      refine ⟨c', fun m hm => Comes.next ?_ (h2 m hm)⟩
      have e := hf m hm x.fL[i] (List.getElem_mem h1) c (by omega) hy
      simp only [step_rlp_counter_put]
      rw [decide_eq_true (by omega), cond_true, gO_pos (by omega), gO_pos (by unfold inI; omega), idx_nat h1, show (d : Int) + 1 = ((d + 1 : Nat) : Int) by omega, e, Option.bind_some]
      simp only
      rw [gO_pos (by omega), gO_pos (by unfold inI; omega)]
      rfl
    · obtain ⟨c', e⟩ := hg x.fL[i] (List.getElem_mem h1) c (by omega) hc (by omega)
      refine ⟨c', fun m hm => Comes.stop ?_⟩
      simp only [step_rlp_counter_put]
      rw [decide_eq_true (by omega), cond_true, gO_pos (by omega), gO_pos (by unfold inI; omega), idx_nat h1, show (d : Int) + 1 = ((d + 1 : Nat) : Int) by omega, e m hm, Option.bind_some]
theorem big_put : ∀ (n : Nat) (x : Item) (d c : Nat), OKn n x → RT n x → d + n ≤ 65 → (ienc x).length ≤ 2 ^ 32 → c ≤ 4096 → 4096 < c + icnt x →
    ∃ c', ∀ m, n ≤ m → rec_rlp_counter_put m x (d : Int) ⟨(c : Int)⟩ = some (.inr 4, c')
  | 0, _, _, _, h, _, _, _, _, _ => h.elim
  | n + 1, x, d, c, hok, hr, hd, hlen, hc, hb => by
    have up : ∀ {c' : counter}, (∀ m, n ≤ m → theC (step_rlp_counter_put (rec_rlp_counter_put m) x (d : Int) ⟨(c : Int)⟩) .S = some (.inr 4, c')) → ∀ m, n + 1 ≤ m → rec_rlp_counter_put m x (d : Int) ⟨(c : Int)⟩ = some (.inr 4, c') := by
      intro c' h m hm
      obtain ⟨k, rfl⟩ : ∃ k, m = k + 1 := ⟨m - 1, by omega⟩
      exact h k (by omega)
    by_cases hc6 : c = 4096
    · refine ⟨⟨((c + 1 : Nat) : Int)⟩, up fun m hm => theC_eq (Comes.stop ?_)⟩
      simp only [step_rlp_counter_put, one_big (d := d) (by omega) hc6, Option.bind_some]
    · have h1 := one_ok (d := d) (c := c) (by omega) (by omega)
      have hl : x.fList = true := by
        cases hl : x.fList with
        | true => rfl
        | false =>
          have hnil := hr.1 hl
          rw [icnt_eq, hnil] at hb
          simp only [icnts] at hb; omega
      have hnil := hr.2.1 hl
      rw [ienc_eq, if_neg (by rw [hl]; simp), List.length_append] at hlen
      obtain ⟨c', key⟩ := big_L1 n rec_rlp_counter_put x d (by omega) ⟨(c : Int)⟩ (fun m hm y hy c hl hc => put_rec n m y (d + 1) c (hok.2.2 y hy) (hr.2.2 y hy) hm (by omega) hl hc)
        (fun y hy c hl hc hb => big_put n y (d + 1) c (hok.2.2 y hy) (hr.2.2 y hy) (by omega) hl hc hb) hok.1 x.fL.length 0 [] (c + 1) rfl (by simp only [List.nil_append, List.drop_zero]; omega) (by omega) (by rw [icnt_eq] at hb; rw [List.drop_zero]; omega)
      refine ⟨c', up fun m hm => theC_eq (Comes.next ?_ (key m hm))⟩
      simp only [step_rlp_counter_put, h1, Option.bind_some, hnil, hl]
      simp only [beq_self_eq_true, Bool.true_or, Bool.or_true, must_true, Option.bind_some, Bool.not_true, cond_false]
      rfl
theorem Put_big {n : Nat} (x : Item) (hok : OKn n x) (hr : RT n x) (hn : n ≤ 65) (hlen : (ienc x).length ≤ 2 ^ 32) (hc : 4096 < icnt x) : g_rlp_Put x = some ([], 4) := by
  obtain ⟨c', h⟩ := big_put n x 0 0 hok hr (by omega) hlen (by omega) (by omega)
  have : g_rlp_counter_put x 0 ⟨0⟩ = some (.inr 4, c') := theR_eq n h
  unfold g_rlp_Put
  rw [this]; rfl

/-! ### What is read, whatever the bytes -/
/-- A number's bytes, read as long as what is there is less than 2^32. -/
def lv : Nat → List UInt8 → Option Nat
  | v, [] => some v
  | v, b :: r => if v < 4294967296 then lv (v * 256 + b.toNat) r else none
def lenR (k : Nat) : Option Nat → (Int × Int) ⊕ Int
  | none => .inr 5
  | some v => if 55 < v then .inl ((v : Int), ((1 + k : Nat) : Int)) else .inr 6
theorem lv_bound : ∀ (l : List UInt8) (v w : Nat), v < 2 ^ 40 → lv v l = some w → w < 2 ^ 40
  | [], v, w, hv, h => by simp only [lv, Option.some.injEq] at h; omega
  | b :: r, v, w, hv, h => by
    have hb : b.toNat < 256 := UInt8.toNat_lt _
    unfold lv at h
    split at h
    · exact lv_bound r _ w (by omega) h
    · cases h
theorem glen_L1 (s : List UInt8) (first n : Nat) (k : Nat) (hs : ((idx s (0 : Int)).toNat : Int) - (first : Int) = ((k + 55 : Nat) : Int)) (hk : k ≤ 9) (hlen : 1 + k ≤ s.length) (hl : s.length ≤ 2 ^ 40) (j : Nat) : ∀ (i v : Nat), j + i = k → v < 2 ^ 40 →
    Comes (step_rlp_length s (first : Int)) (.L1 (v : Int) (i : Int)) (lenR k (lv v (((s.drop 1).take k).drop i))) := by
  have e55 : ((idx s (0 : Int)).toNat : Int) - (first : Int) - 55 = (k : Int) := by omega
  have hd : ((s.drop 1).take k).length = k := by rw [List.length_take, List.length_drop]; omega
  induction j with
  | zero =>
    intro i v hi hv
    obtain rfl : i = k := by omega
    rw [List.drop_eq_nil_of_le (by omega)]
    refine Comes.stop ?_
    simp only [step_rlp_length, e55, lv, lenR]
    rw [decide_eq_false (by omega), cond_false]
    by_cases h : 55 < v
    · rw [if_pos h, decide_eq_true (by omega), must_true, Option.bind_some]
      simp only
      rw [gO_pos (by unfold inI; omega), show (1 : Int) + (i : Int) = ((1 + i : Nat) : Int) by omega]
    · rw [if_neg h, decide_eq_false (by omega)]; rfl
  | succ j ih =>
    intro i v hi hv
    have h1 : i < ((s.drop 1).take k).length := by omega
    have hg : idx s (1 + (i : Int)) = ((s.drop 1).take k)[i] := by
      rw [show (1 : Int) + (i : Int) = ((1 + i : Nat) : Int) by omega, idx_nat (by omega)]
      simp [Nat.add_comm]
    rw [List.drop_eq_getElem_cons h1]
    have hb : (((s.drop 1).take k)[i]).toNat < 256 := UInt8.toNat_lt _
    unfold lv
    by_cases hv2 : v < 4294967296
    · rw [if_pos hv2]
      refine Comes.next ?_ (ih (i + 1) (v * 256 + (((s.drop 1).take k)[i]).toNat) (by omega) (by omega))
      have hsh : shlI (v : Int) 8 = ((v * 256 : Nat) : Int) := by
        unfold shlI
        rw [show min (8 : Int).toNat 64 = 8 by decide]; omega
      simp only [step_rlp_length, e55]
      rw [decide_eq_true (by omega), cond_true, decide_eq_true (by omega), must_true, Option.bind_some]
      simp only
      rw [gO_pos (by rw [hsh]; unfold inI; omega), gO_pos (by unfold inI; omega), gO_pos (by omega), gO_pos (by unfold inI; omega), hg, orI_byte _ _ (by omega) hb]
      rfl
    · rw [if_neg hv2]
      refine Comes.stop ?_
      simp only [step_rlp_length, e55]
      rw [decide_eq_true (by omega), cond_true, decide_eq_false (by omega)]
      rfl

/-- How long what stands here is, and how long its head. -/
def lenS (s : List UInt8) (n0 : Nat) : (Int × Int) ⊕ Int :=
  if n0 ≤ 55 then .inl ((n0 : Int), 1)
  else if s.length < 1 + (n0 - 55) then .inr 5
  else if (s.getD 1 0).toNat = 0 then .inr 6
  else lenR (n0 - 55) (lv 0 ((s.drop 1).take (n0 - 55)))
theorem get1 {s : List UInt8} (h : 1 < s.length) : idx s (1 : Int) = s.getD 1 0 := by
  show idx s ((1 : Nat) : Int) = _
  rw [idx_nat h]
  simp [List.getD_eq_getElem?_getD, List.getElem?_eq_getElem h]
theorem glen_ok (s : List UInt8) (first n0 : Nat) (hs : (s.getD 0 0).toNat = first + n0) (h0 : 0 < s.length) (hn : n0 ≤ 63) (hl : s.length ≤ 2 ^ 40) : g_rlp_length s (first : Int) = some (lenS s n0) := by
  refine theC_eq ?_
  have hi : (((idx s (0 : Int)).toNat : Nat) : Int) - (first : Int) = (n0 : Int) := by rw [get0 h0]; omega
  unfold lenS
  by_cases h1 : n0 ≤ 55
  · rw [if_pos h1]
    refine Comes.stop ?_
    simp only [step_rlp_length, hi]
    rw [gO_pos (by omega), gO_pos (by unfold inI; omega), decide_eq_true (by omega), cond_true]
  · rw [if_neg h1]
    have e55 : (n0 : Int) - 55 = ((n0 - 55 : Nat) : Int) := by omega
    by_cases h2 : s.length < 1 + (n0 - 55)
    · rw [if_pos h2]
      refine Comes.stop ?_
      simp only [step_rlp_length, hi, e55]
      rw [gO_pos (by omega), gO_pos (by unfold inI; omega), decide_eq_false (by omega), cond_false, gO_pos (by unfold inI; omega), decide_eq_false (by omega)]
      rfl
    · rw [if_neg h2]
      by_cases h3 : (s.getD 1 0).toNat = 0
      · rw [if_pos h3]
        refine Comes.stop ?_
        simp only [step_rlp_length, hi, e55]
        rw [gO_pos (by omega), gO_pos (by unfold inI; omega), decide_eq_false (by omega), cond_false, gO_pos (by unfold inI; omega), decide_eq_true (by omega), must_true, Option.bind_some]
        simp only
        rw [gO_pos (by omega), get1 (by omega), decide_eq_true (by omega)]
        rfl
      · rw [if_neg h3]
        have := glen_L1 s first n0 (n0 - 55) (by rw [hi]; omega) (by omega) (by omega) hl (n0 - 55) 0 0 rfl (by decide)
        rw [List.drop_zero] at this
        refine Comes.next ?_ this
        simp only [step_rlp_length, hi, e55]
        rw [gO_pos (by omega), gO_pos (by unfold inI; omega), decide_eq_false (by omega), cond_false, gO_pos (by unfold inI; omega), decide_eq_true (by omega), must_true, Option.bind_some]
        simp only
        rw [gO_pos (by omega), get1 (by omega), decide_eq_false (by omega), Bool.not_false, must_true, Option.bind_some]
        rfl
def noI : Item := ⟨false, [], []⟩
/-- The reference's reading of a length that is told by bytes. -/
theorem rlen_L2 (f : List UInt8 → Int → Int → Option (Item × Int × Int × Int)) (s : List UInt8) (d l : Int) (k : Nat) (hs : (((idx s (0 : Int)).toNat : Nat) : Int).tmod 64 = ((k + 55 : Nat) : Int)) (hk : k ≤ 9) (hlen : 1 + k ≤ s.length) (hl : s.length ≤ 2 ^ 40) (r : Item × Int × Int × Int)
    (hJ : ∀ v : Nat, v < 2 ^ 40 → 55 < v → lv 0 ((s.drop 1).take k) = some v → Comes (step_ref05_Read f s d l) (.J1 (v : Int) ((1 + k : Nat) : Int)) r)
    (h5 : lv 0 ((s.drop 1).take k) = none → r = (noI, 0, 0, 5)) (h6 : ∀ v, lv 0 ((s.drop 1).take k) = some v → ¬ 55 < v → r = (noI, 0, 0, 6)) (j : Nat) : ∀ (i v : Nat), j + i = k → v < 2 ^ 40 → lv 0 ((s.drop 1).take k) = lv v (((s.drop 1).take k).drop i) →
    Comes (step_ref05_Read f s d l) (.L2 (v : Int) ((i + 1 : Nat) : Int)) r := by
  have e55 : ((k + 55 : Nat) : Int) - 55 = (k : Int) := by omega
  have hd : ((s.drop 1).take k).length = k := by rw [List.length_take, List.length_drop]; omega
  induction j with
  | zero =>
    intro i v hi hv he
    obtain rfl : i = k := by omega
    have hz : ((s.drop 1).take i).drop i = [] := List.drop_eq_nil_of_le (by omega)
    rw [hz, show lv v [] = some v from rfl] at he
    by_cases h : 55 < v
    · refine Comes.next ?_ (hJ v hv h he)
      simp only [step_ref05_Read, hs, e55]
      rw [decide_eq_false (by omega), cond_false, decide_eq_false (by omega), cond_false, gO_pos (by unfold inI; omega), show (1 : Int) + (i : Int) = ((1 + i : Nat) : Int) by omega]
    · rw [h6 v he h]
      refine Comes.stop ?_
      simp only [step_ref05_Read, hs, e55]
      rw [decide_eq_false (by omega), cond_false, decide_eq_true (show (v : Int) < 56 by omega), cond_true]
      rfl
  | succ j ih =>
    intro i v hi hv he
    have h1 : i < ((s.drop 1).take k).length := by omega
    have hg : idx s ((i + 1 : Nat) : Int) = ((s.drop 1).take k)[i] := by
      rw [idx_nat (by omega)]
      simp [Nat.add_comm]
    rw [List.drop_eq_getElem_cons h1] at he
    have hb : (((s.drop 1).take k)[i]).toNat < 256 := UInt8.toNat_lt _
    rw [lv] at he
    by_cases hv2 : v < 4294967296
    · rw [if_pos hv2] at he
      have he' : lv 0 ((s.drop 1).take k) = lv (v * 256 + (((s.drop 1).take k)[i]).toNat) (((s.drop 1).take k).drop (i + 1)) := by
        exact he
      refine Comes.next ?_ (ih (i + 1) (v * 256 + (((s.drop 1).take k)[i]).toNat) (by omega) (by omega) he')
      simp only [step_ref05_Read, hs, e55]
      rw [decide_eq_true (by omega), cond_true, decide_eq_false (by omega), cond_false, gO_pos (by unfold inI; omega), gO_pos (by omega), gO_pos (by rw [hg]; unfold inI; omega), gO_pos (by unfold inI; omega), hg]
      rw [show (256 : Int) * (v : Int) + (((((s.drop 1).take k)[i]).toNat : Nat) : Int) = ((v * 256 + (((s.drop 1).take k)[i]).toNat : Nat) : Int) by omega]
      rfl
    · rw [if_neg hv2] at he
      have he' : lv 0 ((s.drop 1).take k) = none := he
      rw [h5 he']
      refine Comes.stop ?_
      simp only [step_ref05_Read, hs, e55]
      rw [decide_eq_true (by omega), cond_true, decide_eq_true (by omega), cond_true]
      rfl


theorem lenS_inl {s : List UInt8} {n0 : Nat} (h0 : 0 < s.length) (hn : n0 ≤ 63) {a b : Int} (h : lenS s n0 = .inl (a, b)) : ∃ v k : Nat, a = (v : Int) ∧ b = (k : Int) ∧ 1 ≤ k ∧ k ≤ s.length ∧ v < 2 ^ 40 := by
  unfold lenS at h
  split at h
  · cases h
    exact ⟨n0, 1, rfl, rfl, by omega, by omega, by omega⟩
  · split at h
    · cases h
    · split at h
      · cases h
      · cases hl : lv 0 ((s.drop 1).take (n0 - 55)) with
        | none => rw [hl] at h; cases h
        | some v =>
          rw [hl] at h
          unfold lenR at h
          simp only at h
          split at h
          · cases h
            exact ⟨v, 1 + (n0 - 55), rfl, rfl, by omega, by omega, lv_bound _ 0 v (by omega) hl⟩
          · cases h
theorem lenS_inr {s : List UInt8} {n0 : Nat} {e : Int} (h : lenS s n0 = .inr e) : e ≠ 0 := by
  unfold lenS at h
  split at h
  · cases h
  · split at h
    · cases h; decide
    · split at h
      · cases h; decide
      · cases hl : lv 0 ((s.drop 1).take (n0 - 55)) with
        | none => rw [hl] at h; cases h; decide
        | some v =>
          rw [hl] at h
          unfold lenR at h
          simp only at h
          split at h
          · cases h
          · cases h; decide

theorem rread_len (f : List UInt8 → Int → Int → Option (Item × Int × Int × Int)) (s : List UInt8) (d l : Nat) (n0 : Nat) (hd : d ≤ 64) (hl1 : 1 ≤ l) (hl2 : l ≤ 4096) (h0 : 0 < s.length) (hl : s.length ≤ 2 ^ 40) (hb : 128 ≤ (s.getD 0 0).toNat) (hm : (s.getD 0 0).toNat % 64 = n0) (r : Item × Int × Int × Int)
    (hJ : ∀ v k : Nat, lenS s n0 = .inl ((v : Int), (k : Int)) → Comes (step_ref05_Read f s (d : Int) (l : Int)) (.J1 (v : Int) (k : Int)) r) (hE : ∀ e, lenS s n0 = .inr e → r = (noI, 0, 0, e)) : Comes (step_ref05_Read f s (d : Int) (l : Int)) .S r := by
  have hne : s ≠ [] := List.length_pos_iff.1 h0
  have ht : (((idx s (0 : Int)).toNat : Nat) : Int).tmod 64 = (n0 : Int) := by
    rw [get0 h0, Int.tmod_eq_emod_of_nonneg (by omega)]; omega
  have hn : n0 ≤ 63 := by omega
  by_cases h1 : n0 ≤ 55
  · have hS : lenS s n0 = .inl ((n0 : Int), ((1 : Nat) : Int)) := by unfold lenS; rw [if_pos h1]; rfl
    refine Comes.next ?_ (hJ n0 1 hS)
    simp only [step_ref05_Read, ht]
    rw [decide_eq_false (by omega), cond_false, decide_eq_false (by omega), cond_false, gO_pos (by unfold inI; omega), beq_nil hne, cond_false, gO_pos (by omega), get0 h0, decide_eq_false (by omega), cond_false, decide_eq_false (by omega), cond_false]
    rfl
  · have e55 : (n0 : Int) - 55 = ((n0 - 55 : Nat) : Int) := by omega
    by_cases h2 : s.length < 1 + (n0 - 55)
    · have hS : lenS s n0 = .inr 5 := by unfold lenS; rw [if_neg h1, if_pos h2]
      rw [hE 5 hS]
      refine Comes.stop ?_
      simp only [step_ref05_Read, ht, e55]
      rw [decide_eq_false (by omega), cond_false, decide_eq_false (by omega), cond_false, gO_pos (by unfold inI; omega), beq_nil hne, cond_false, gO_pos (by omega), get0 h0, decide_eq_false (by omega), cond_false, decide_eq_true (by omega), cond_true, gO_pos (by unfold inI; omega), gO_pos (by unfold inI; omega), decide_eq_true (by omega), cond_true]
      rfl
    · by_cases h3 : (s.getD 1 0).toNat = 0
      · have hS : lenS s n0 = .inr 6 := by unfold lenS; rw [if_neg h1, if_neg h2, if_pos h3]
        rw [hE 6 hS]
        refine Comes.stop ?_
        simp only [step_ref05_Read, ht, e55]
        rw [decide_eq_false (by omega), cond_false, decide_eq_false (by omega), cond_false, gO_pos (by unfold inI; omega), beq_nil hne, cond_false, gO_pos (by omega), get0 h0, decide_eq_false (by omega), cond_false, decide_eq_true (by omega), cond_true, gO_pos (by unfold inI; omega), gO_pos (by unfold inI; omega), decide_eq_false (by omega), cond_false, gO_pos (by omega), get1 (by omega), decide_eq_true (by omega), cond_true]
        rfl
      · have hS : lenS s n0 = lenR (n0 - 55) (lv 0 ((s.drop 1).take (n0 - 55))) := by unfold lenS; rw [if_neg h1, if_neg h2, if_neg h3]
        have key := rlen_L2 f s (d : Int) (l : Int) (n0 - 55) (by rw [ht]; omega) (by omega) (by omega) hl r
          (fun v hv h55 he => hJ v (1 + (n0 - 55)) (by rw [hS, he]; unfold lenR; simp only; rw [if_pos h55]))
          (fun he => hE 5 (by rw [hS, he]; rfl)) (fun v he h55 => hE 6 (by rw [hS, he]; unfold lenR; simp only; rw [if_neg h55])) (n0 - 55) 0 0 rfl (by decide) (by rw [List.drop_zero])
        refine Comes.next ?_ key
        simp only [step_ref05_Read, ht, e55]
        rw [decide_eq_false (by omega), cond_false, decide_eq_false (by omega), cond_false, gO_pos (by unfold inI; omega), beq_nil hne, cond_false, gO_pos (by omega), get0 h0, decide_eq_false (by omega), cond_false, decide_eq_true (by omega), cond_true, gO_pos (by unfold inI; omega), gO_pos (by unfold inI; omega), decide_eq_false (by omega), cond_false, gO_pos (by omega), get1 (by omega), decide_eq_false (by omega), cond_false]
        rfl

/-- Both read the same. -/
def Ag (n : Nat) (s : List UInt8) (d c : Nat) : Prop :=
  (∃ (x : Item) (k : Nat), 1 ≤ k ∧ k ≤ s.length ∧ c + icnt x ≤ 4096 ∧ ∀ m, n ≤ m → rec_rlp_counter_get m s (d : Int) ⟨(c : Int)⟩ = some (.inl (x, (k : Int)), ⟨((c + icnt x : Nat) : Int)⟩) ∧ rec_ref05_Read m s (d : Int) ((4096 - c : Nat) : Int) = some (x, (k : Int), ((4096 - (c + icnt x) : Nat) : Int), 0)) ∨
  (∃ (e : Int) (c' : counter), e ≠ 0 ∧ ∀ m, n ≤ m → rec_rlp_counter_get m s (d : Int) ⟨(c : Int)⟩ = some (.inr e, c') ∧ rec_ref05_Read m s (d : Int) ((4096 - c : Nat) : Int) = some (noI, 0, 0, e))

theorem ag_loop (n : Nat) (s : List UInt8) (d : Nat) (hd64 : d ≤ 64) (c0 : counter) (l0 : Int) (v kk : Nat) (hkv : kk + v ≤ 2 ^ 41) (ih : ∀ (t : List UInt8) (c : Nat), c ≤ 4096 → t.length ≤ 2 ^ 40 → Ag n t (d + 1) c) : ∀ (N : Nat) (inn : List UInt8) (acc : List Item) (c : Nat), inn.length ≤ N → inn.length ≤ 2 ^ 40 → c ≤ 4096 → acc.length ≤ c →
    (∃ l : List Item, c + icnts l ≤ 4096 ∧ ∀ m, n ≤ m → Comes (step_rlp_counter_get (rec_rlp_counter_get m) s (d : Int) c0) (.L2 (v : Int) (kk : Int) inn (c : Int) acc) (.inl (⟨true, [], acc ++ l⟩, ((kk + v : Nat) : Int)), ⟨((c + icnts l : Nat) : Int)⟩) ∧
      Comes (step_ref05_Read (rec_ref05_Read m) s (d : Int) l0) (.L3 ((4096 - c : Nat) : Int) (v : Int) (kk : Int) inn acc) (⟨true, [], acc ++ l⟩, ((kk + v : Nat) : Int), ((4096 - (c + icnts l) : Nat) : Int), 0)) ∨
    (∃ (e : Int) (c' : counter), e ≠ 0 ∧ ∀ m, n ≤ m → Comes (step_rlp_counter_get (rec_rlp_counter_get m) s (d : Int) c0) (.L2 (v : Int) (kk : Int) inn (c : Int) acc) (.inr e, c') ∧
      Comes (step_ref05_Read (rec_ref05_Read m) s (d : Int) l0) (.L3 ((4096 - c : Nat) : Int) (v : Int) (kk : Int) inn acc) (noI, 0, 0, e)) := by
  intro N
  induction N with
  | zero =>
    intro inn acc c hN hl hc ha
    have : inn = [] := List.length_eq_zero_iff.1 (by omega)
    subst this
    refine .inl ⟨[], by simp only [icnts]; omega, fun m hm => ⟨Comes.stop ?_, Comes.stop ?_⟩⟩
    · simp only [step_rlp_counter_get, icnts, Nat.add_zero, List.append_nil]
      rw [show (!(([] : List UInt8) == [])) = false from rfl, cond_false, gO_pos (by unfold inI; omega), show (kk : Int) + (v : Int) = ((kk + v : Nat) : Int) by omega]
    · simp only [step_ref05_Read, icnts, Nat.add_zero, List.append_nil]
      rw [show (!(([] : List UInt8) == [])) = false from rfl, cond_false, gO_pos (by unfold inI; omega), show (kk : Int) + (v : Int) = ((kk + v : Nat) : Int) by omega]
  | succ N iN =>
    intro inn acc c hN hl hc ha
    by_cases hne : inn = []
    · subst hne
      exact iN [] acc c (by simp) hl hc ha
    · have hd1 : (d : Int) + 1 = ((d + 1 : Nat) : Int) := by omega
      rcases ih inn c hc hl with ⟨x, k, k1, k2, k3, hx⟩ | ⟨e, c', he, hx⟩
      · have hx1 := icnt_pos x
        have hrest : sub inn (k : Int) (inn.length : Int) = inn.drop k := by
          unfold sub; rw [Int.toNat_natCast, List.take_of_length_le (by rw [List.length_drop]; omega)]
        have hrl : (inn.drop k).length ≤ N := by rw [List.length_drop]; omega
        have g1 : ∀ m, n ≤ m → step_rlp_counter_get (rec_rlp_counter_get m) s (d : Int) c0 (.L2 (v : Int) (kk : Int) inn (c : Int) acc) = some (.inl (.L2 (v : Int) (kk : Int) (inn.drop k) ((c + icnt x : Nat) : Int) (acc ++ [x]))) := by
          intro m hm
          simp only [step_rlp_counter_get]
          rw [beq_nil hne, Bool.not_false, cond_true, gO_pos (by unfold inI; omega), hd1, (hx m hm).1, Option.bind_some]
          simp only
          rw [gO_pos (by simp only [List.length_singleton]; omega), gO_pos (by omega), hrest]
        have g2 : ∀ m, n ≤ m → step_ref05_Read (rec_ref05_Read m) s (d : Int) l0 (.L3 ((4096 - c : Nat) : Int) (v : Int) (kk : Int) inn acc) = some (.inl (.L3 ((4096 - (c + icnt x) : Nat) : Int) (v : Int) (kk : Int) (inn.drop k) (acc ++ [x]))) := by
          intro m hm
          simp only [step_ref05_Read]
          rw [beq_nil hne, Bool.not_false, cond_true, gO_pos (by unfold inI; omega), hd1, (hx m hm).2, Option.bind_some]
          rw [show (!decide ((0 : Int) = 0)) = false from rfl, cond_false, gO_pos (by simp only [List.length_singleton]; omega), gO_pos (by show 0 ≤ (k : Int) ∧ (k : Int) ≤ (inn.length : Int) ∧ _; omega), hrest]
        rcases iN (inn.drop k) (acc ++ [x]) (c + icnt x) hrl (by rw [List.length_drop]; omega) k3 (by rw [List.length_append, List.length_singleton]; omega) with ⟨l, l1, l2⟩ | ⟨e, c', he, l2⟩
        · refine .inl ⟨x :: l, by simp only [icnts]; omega, fun m hm => ?_⟩
          have := l2 m hm
          rw [List.append_assoc, List.singleton_append] at this
          simp only [icnts, ← Nat.add_assoc]
          exact ⟨Comes.next (g1 m hm) this.1, Comes.next (g2 m hm) this.2⟩
        · exact .inr ⟨e, c', he, fun m hm => ⟨Comes.next (g1 m hm) (l2 m hm).1, Comes.next (g2 m hm) (l2 m hm).2⟩⟩
      · refine .inr ⟨e, c', he, fun m hm => ⟨Comes.stop ?_, Comes.stop ?_⟩⟩
        · simp only [step_rlp_counter_get]
          rw [beq_nil hne, Bool.not_false, cond_true, gO_pos (by unfold inI; omega), hd1, (hx m hm).1, Option.bind_some]
        · simp only [step_ref05_Read]
          rw [beq_nil hne, Bool.not_false, cond_true, gO_pos (by unfold inI; omega), hd1, (hx m hm).2, Option.bind_some]
          simp only
          rw [decide_eq_false he]
          rfl

theorem agree : ∀ (n : Nat) (s : List UInt8) (d c : Nat), 0 < n → d + n = 66 → c ≤ 4096 → s.length ≤ 2 ^ 40 → Ag n s d c
  | 0, _, _, _, h, _, _, _ => by omega
  | n + 1, s, d, c, _, hd, hc, hl => by
    have up : ∀ {R : ((Item × Int) ⊕ Int) × counter} {Q : Item × Int × Int × Int}, (∀ m, n ≤ m → Comes (step_rlp_counter_get (rec_rlp_counter_get m) s (d : Int) ⟨(c : Int)⟩) .S R ∧ Comes (step_ref05_Read (rec_ref05_Read m) s (d : Int) ((4096 - c : Nat) : Int)) .S Q) →
        ∀ m, n + 1 ≤ m → rec_rlp_counter_get m s (d : Int) ⟨(c : Int)⟩ = some R ∧ rec_ref05_Read m s (d : Int) ((4096 - c : Nat) : Int) = some Q := by
      intro R Q h m hm
      obtain ⟨k, rfl⟩ : ∃ k, m = k + 1 := ⟨m - 1, by omega⟩
      exact ⟨theC_eq (h k (by omega)).1, theC_eq (h k (by omega)).2⟩
    by_cases h65 : d = 65
    · subst h65
      refine .inr ⟨17, ⟨((c + 1 : Nat) : Int)⟩, by decide, up fun m hm => ⟨Comes.stop ?_, Comes.stop ?_⟩⟩
      · have : g_rlp_counter_one ((65 : Nat) : Int) ⟨(c : Int)⟩ = some (.inr 17, ⟨((c + 1 : Nat) : Int)⟩) := by
          unfold g_rlp_counter_one
          simp only
          rw [gO_pos (by unfold inI; omega)]
          rfl
        simp only [step_rlp_counter_get, this, Option.bind_some]
      · simp only [step_ref05_Read]
        rfl
    · have hd64 : d ≤ 64 := by omega
      by_cases hc6 : c = 4096
      · refine .inr ⟨4, ⟨((c + 1 : Nat) : Int)⟩, by decide, up fun m hm => ⟨Comes.stop ?_, Comes.stop ?_⟩⟩
        · simp only [step_rlp_counter_get, one_big (d := d) hd64 hc6, Option.bind_some]
        · simp only [step_ref05_Read]
          rw [decide_eq_false (by omega), cond_false, decide_eq_true (by omega), cond_true]
          rfl
      · have h1 := one_ok (d := d) (c := c) hd64 (by omega)
        by_cases hne : s = []
        · subst hne
          refine .inr ⟨5, ⟨((c + 1 : Nat) : Int)⟩, by decide, up fun m hm => ⟨Comes.stop ?_, Comes.stop ?_⟩⟩
          · simp only [step_rlp_counter_get, h1, Option.bind_some]
            rfl
          · simp only [step_ref05_Read]
            rw [decide_eq_false (by omega), cond_false, decide_eq_false (by omega), cond_false, gO_pos (by unfold inI; omega)]
            rfl
        · have h0 : 0 < s.length := List.length_pos_iff.2 hne
          by_cases hb : (s.getD 0 0).toNat < 128
          · -- one byte
            have hcnt : ∀ t, icnt (⟨false, t, []⟩ : Item) = 1 := by intro t; rw [icnt_eq]; rfl
            refine .inl ⟨⟨false, sub s 0 1, []⟩, 1, by omega, by omega, by rw [hcnt]; omega, up fun m hm => ⟨Comes.stop ?_, Comes.stop ?_⟩⟩
            · simp only [step_rlp_counter_get, h1, Option.bind_some, beq_nil hne, Bool.not_false, must_true]
              rw [gO_pos (by omega), get0 h0, decide_eq_true (by omega), cond_true, gO_pos (by omega), hcnt]
              rfl
            · simp only [step_ref05_Read]
              rw [decide_eq_false (by omega), cond_false, decide_eq_false (by omega), cond_false, gO_pos (by unfold inI; omega), beq_nil hne, cond_false, gO_pos (by omega), get0 h0, decide_eq_true (by omega), cond_true, gO_pos (by omega), hcnt,
                show ((4096 - c : Nat) : Int) - 1 = ((4096 - (c + 1) : Nat) : Int) by omega]
              rfl
          · have hb256 : (s.getD 0 0).toNat < 256 := UInt8.toNat_lt _
            obtain ⟨first, n0, hfirst, hn0, hm, hsel⟩ : ∃ first n0 : Nat, (s.getD 0 0).toNat = first + n0 ∧ n0 ≤ 63 ∧ (s.getD 0 0).toNat % 64 = n0 ∧ (bif decide ((192 : Int) ≤ (((s.getD 0 0).toNat : Nat) : Int)) then some (192 : Int) else some 128) = some (first : Int) := by
              by_cases h192 : 192 ≤ (s.getD 0 0).toNat
              · exact ⟨192, (s.getD 0 0).toNat - 192, by omega, by omega, by omega, by rw [decide_eq_true (by omega)]; rfl⟩
              · exact ⟨128, (s.getD 0 0).toNat - 128, by omega, by omega, by omega, by rw [decide_eq_false (by omega)]; rfl⟩
            have hL := glen_ok s first n0 hfirst h0 hn0 hl
            have hlI : ((4096 - c : Nat) : Int) - 1 = ((4096 - (c + 1) : Nat) : Int) := by omega
            -- what get does up to the length
            have gS : ∀ m, step_rlp_counter_get (rec_rlp_counter_get m) s (d : Int) ⟨(c : Int)⟩ .S = (match lenS s n0 with
                | .inl v23 =>
                  gO (inI ((s.length : Int) - v23.2)) ((g_rlp_must (decide (v23.1 ≤ (s.length : Int) - v23.2)) 5).bind fun xx => match xx with
                    | .inl _ => gO (inI (v23.2 + v23.1)) (gO (0 ≤ v23.2 ∧ v23.2 ≤ v23.2 + v23.1 ∧ v23.2 + v23.1 ≤ (s.length : Int)) (
                        bif !decide ((192 : Int) ≤ (((s.getD 0 0).toNat : Nat) : Int)) then
                          gO ((!decide (v23.1 = 1)) = false → (0 : Int) ≤ 0 ∧ 0 < ((sub s v23.2 (v23.2 + v23.1)).length : Int)) ((g_rlp_must ((!decide (v23.1 = 1)) || decide ((128 : Int) ≤ (((idx (sub s v23.2 (v23.2 + v23.1)) 0).toNat : Nat) : Int))) 6).bind fun xx => match xx with
                            | .inl _ => (g_rlp_Text (sub s v23.2 (v23.2 + v23.1))).bind fun x39 => gO (inI (v23.2 + v23.1)) (some (.inr (.inl (x39, v23.2 + v23.1), ⟨((c + 1 : Nat) : Int)⟩)))
                            | .inr e37 => some (.inr (.inr e37, ⟨((c + 1 : Nat) : Int)⟩)))
                        else some (.inl (.L2 v23.1 v23.2 (sub s v23.2 (v23.2 + v23.1)) ((c + 1 : Nat) : Int) []))))
                    | .inr e28 => some (.inr (.inr e28, ⟨((c + 1 : Nat) : Int)⟩)))
                | .inr e22 => some (.inr (.inr e22, ⟨((c + 1 : Nat) : Int)⟩))) := by
              intro m
              simp only [step_rlp_counter_get, h1, Option.bind_some, beq_nil hne, Bool.not_false, must_true]
              rw [gO_pos (by omega), get0 h0, decide_eq_false (by omega), cond_false, gO_pos (by omega), hsel, Option.bind_some, hL, Option.bind_some]
              rfl
            cases hS : lenS s n0 with
            | inr e =>
              refine .inr ⟨e, ⟨((c + 1 : Nat) : Int)⟩, lenS_inr hS, up fun m hm' => ⟨Comes.stop ?_, rread_len _ s d (4096 - c) n0 hd64 (by omega) (by omega) h0 hl (by omega) hm _ (fun v k h => by rw [hS] at h; cases h) (fun e' h => by rw [hS] at h; cases h; rfl)⟩⟩
              rw [gS, hS]
            | inl p =>
              obtain ⟨a, b⟩ := p
              obtain ⟨v, k, rfl, rfl, k1, k2, hv⟩ := lenS_inl h0 hn0 hS
              have rd : ∀ m (r : Item × Int × Int × Int), Comes (step_ref05_Read (rec_ref05_Read m) s (d : Int) ((4096 - c : Nat) : Int)) (.J1 (v : Int) (k : Int)) r → Comes (step_ref05_Read (rec_ref05_Read m) s (d : Int) ((4096 - c : Nat) : Int)) .S r := by
                intro m r h
                refine rread_len _ s d (4096 - c) n0 hd64 (by omega) (by omega) h0 hl (by omega) hm r (fun v' k' h' => ?_) (fun e' h' => by rw [hS] at h'; cases h')
                rw [hS] at h'
                simp only [Sum.inl.injEq, Prod.mk.injEq] at h'
                rw [← h'.1, ← h'.2]; exact h
              by_cases hbig : s.length < k + v
              · refine .inr ⟨5, ⟨((c + 1 : Nat) : Int)⟩, by decide, up fun m hm' => ⟨Comes.stop ?_, rd m _ (Comes.stop ?_)⟩⟩
                · rw [gS, hS]
                  simp only
                  rw [gO_pos (by unfold inI; omega), decide_eq_false (by omega)]
                  rfl
                · simp only [step_ref05_Read]
                  rw [gO_pos (by unfold inI; omega), decide_eq_true (by omega), cond_true]
                  rfl
              · have ekv : (k : Int) + (v : Int) = ((k + v : Nat) : Int) := by omega
                have htl : (sub s (k : Int) ((k : Int) + (v : Int))).length = v := by
                  unfold sub
                  rw [List.length_take, List.length_drop]; omega
                have J1 : ∀ m, step_ref05_Read (rec_ref05_Read m) s (d : Int) ((4096 - c : Nat) : Int) (.J1 (v : Int) (k : Int)) = (bif !decide ((192 : Int) ≤ (((s.getD 0 0).toNat : Nat) : Int)) then
                    gO (decide ((v : Int) = 1) = true → (0 : Int) ≤ 0 ∧ 0 < ((sub s (k : Int) ((k : Int) + (v : Int))).length : Int)) (bif decide ((v : Int) = 1) && decide ((((idx (sub s (k : Int) ((k : Int) + (v : Int))) 0).toNat : Nat) : Int) < 128) then some (.inr (noI, 0, 0, 6))
                      else gO (inI ((k : Int) + (v : Int))) (some (.inr (⟨false, sub s (k : Int) ((k : Int) + (v : Int)), []⟩, (k : Int) + (v : Int), ((4096 - (c + 1) : Nat) : Int), 0))))
                    else some (.inl (.L3 ((4096 - (c + 1) : Nat) : Int) (v : Int) (k : Int) (sub s (k : Int) ((k : Int) + (v : Int))) []))) := by
                  intro m
                  simp only [step_ref05_Read]
                  rw [gO_pos (by unfold inI; omega), decide_eq_false (by omega), cond_false, gO_pos (by unfold inI; omega), gO_pos (by omega), get0 h0, hlI]
                  rfl
                have G1 : ∀ m, step_rlp_counter_get (rec_rlp_counter_get m) s (d : Int) ⟨(c : Int)⟩ .S = (bif !decide ((192 : Int) ≤ (((s.getD 0 0).toNat : Nat) : Int)) then
                          gO ((!decide ((v : Int) = 1)) = false → (0 : Int) ≤ 0 ∧ 0 < ((sub s (k : Int) ((k : Int) + (v : Int))).length : Int)) ((g_rlp_must ((!decide ((v : Int) = 1)) || decide ((128 : Int) ≤ (((idx (sub s (k : Int) ((k : Int) + (v : Int))) 0).toNat : Nat) : Int))) 6).bind fun xx => match xx with
                            | .inl _ => (g_rlp_Text (sub s (k : Int) ((k : Int) + (v : Int)))).bind fun x39 => gO (inI ((k : Int) + (v : Int))) (some (.inr (.inl (x39, (k : Int) + (v : Int)), ⟨((c + 1 : Nat) : Int)⟩)))
                            | .inr e37 => some (.inr (.inr e37, ⟨((c + 1 : Nat) : Int)⟩)))
                        else some (.inl (.L2 (v : Int) (k : Int) (sub s (k : Int) ((k : Int) + (v : Int))) ((c + 1 : Nat) : Int) []))) := by
                  intro m
                  rw [gS, hS]
                  simp only
                  rw [gO_pos (by unfold inI; omega), decide_eq_true (by omega), must_true, Option.bind_some]
                  simp only
                  rw [gO_pos (by unfold inI; omega), gO_pos (by omega)]
                by_cases h192 : 192 ≤ (s.getD 0 0).toNat
                · rcases ag_loop n s d hd64 ⟨(c : Int)⟩ ((4096 - c : Nat) : Int) v k (by omega) (fun t c hc ht => agree n t (d + 1) c (by omega) (by omega) hc ht) _ (sub s (k : Int) ((k : Int) + (v : Int))) [] (c + 1) (Nat.le_refl _) (by omega) (by omega) (by simp) with ⟨l, l1, l2⟩ | ⟨e, c', he, l2⟩
                  · have hcnt : c + icnt (⟨true, [], l⟩ : Item) = c + 1 + icnts l := by rw [icnt_eq]; show c + (1 + icnts l) = _; omega
                    refine .inl ⟨⟨true, [], l⟩, k + v, by omega, by omega, by omega, up fun m hm' => ?_⟩
                    have := l2 m hm'
                    rw [List.nil_append] at this
                    rw [hcnt]
                    exact ⟨Comes.next (by rw [G1, decide_eq_true (by omega)]; rfl) this.1, rd m _ (Comes.next (by rw [J1, decide_eq_true (by omega)]; rfl) this.2)⟩
                  · exact .inr ⟨e, c', he, up fun m hm' => ⟨Comes.next (by rw [G1, decide_eq_true (by omega)]; rfl) (l2 m hm').1, rd m _ (Comes.next (by rw [J1, decide_eq_true (by omega)]; rfl) (l2 m hm').2)⟩⟩
                · by_cases hbad : v = 1 ∧ (idx (sub s (k : Int) ((k : Int) + (v : Int))) 0).toNat < 128
                  · refine .inr ⟨6, ⟨((c + 1 : Nat) : Int)⟩, by decide, up fun m hm' => ⟨Comes.stop ?_, rd m _ (Comes.stop ?_)⟩⟩
                    · rw [G1, decide_eq_false (by omega), Bool.not_false, cond_true, gO_pos (fun _ => by omega), decide_eq_true (by omega), decide_eq_false (by omega)]
                      rfl
                    · rw [J1, decide_eq_false (by omega), Bool.not_false, cond_true, gO_pos (fun _ => by omega), decide_eq_true (by omega), decide_eq_true (by omega)]
                      rfl
                  · have hcnt : ∀ t, icnt (⟨false, t, []⟩ : Item) = 1 := by intro t; rw [icnt_eq]; rfl
                    refine .inl ⟨⟨false, sub s (k : Int) ((k : Int) + (v : Int)), []⟩, k + v, by omega, by omega, by rw [hcnt]; omega, up fun m hm' => ⟨Comes.stop ?_, rd m _ (Comes.stop ?_)⟩⟩
                    · have e1 : ((!decide ((v : Int) = 1)) || decide ((128 : Int) ≤ (((idx (sub s (k : Int) ((k : Int) + (v : Int))) 0).toNat : Nat) : Int))) = true := by
                        simp only [Bool.or_eq_true, Bool.not_eq_true', decide_eq_false_iff_not, decide_eq_true_eq]; omega
                      rw [G1, decide_eq_false (by omega), Bool.not_false, cond_true, gO_pos (fun h => by simp at h; omega), e1, must_true, Option.bind_some]
                      simp only [g_rlp_Text, Option.bind_some]
                      rw [gO_pos (by unfold inI; omega), hcnt, ekv]
                    · have e1 : (decide ((v : Int) = 1) && decide ((((idx (sub s (k : Int) ((k : Int) + (v : Int))) 0).toNat : Nat) : Int) < 128)) = false := by
                        simp only [Bool.and_eq_false_iff, decide_eq_false_iff_not]; omega
                      rw [J1, decide_eq_false (by omega), Bool.not_false, cond_true, gO_pos (fun h => by have := of_decide_eq_true h; omega), e1, cond_false, gO_pos (by unfold inI; omega), hcnt, ekv]


theorem Get_Read (s : List UInt8) (hl : s.length ≤ 2 ^ 40) : (∃ (x : Item) (k : Nat) (a : Int), icnt x ≤ 4096 ∧ g_rlp_Get s = some (x, (k : Int), 0) ∧ g_ref05_Read s 0 4096 = some (x, (k : Int), a, 0)) ∨
    (∃ e : Int, e ≠ 0 ∧ g_rlp_Get s = some (noI, 0, e) ∧ g_ref05_Read s 0 4096 = some (noI, 0, 0, e)) := by
  rcases agree 66 s 0 0 (by decide) rfl (by decide) hl with ⟨x, k, k1, k2, k3, h⟩ | ⟨e, c', he, h⟩
  · have h1 : g_rlp_counter_get s 0 ⟨0⟩ = some (.inl (x, (k : Int)), ⟨((0 + icnt x : Nat) : Int)⟩) := theR_eq 66 fun m hm => (h m hm).1
    have h2 : g_ref05_Read s 0 4096 = some (x, (k : Int), ((4096 - (0 + icnt x) : Nat) : Int), 0) := theR_eq 66 fun m hm => (h m hm).2
    refine .inl ⟨x, k, _, by omega, ?_, h2⟩
    unfold g_rlp_Get
    rw [h1]; rfl
  · have h1 : g_rlp_counter_get s 0 ⟨0⟩ = some (.inr e, c') := theR_eq 66 fun m hm => (h m hm).1
    have h2 : g_ref05_Read s 0 4096 = some (noI, 0, 0, e) := theR_eq 66 fun m hm => (h m hm).2
    refine .inr ⟨e, he, ?_, h2⟩
    unfold g_rlp_Get
    rw [h1]; rfl
theorem icnts_len : ∀ l : List Item, l.length ≤ icnts l
  | [] => Nat.le_refl 0
  | x :: r => by have := icnts_len r; have := icnt_pos x; simp only [icnts, List.length_cons]; omega
theorem icnts_mem : ∀ (l : List Item), ∀ y ∈ l, icnt y ≤ icnts l
  | x :: r, y, h => by
    simp only [icnts]
    rcases List.mem_cons.1 h with rfl | h
    · omega
    · have := icnts_mem r y h; omega
theorem icnt_kids (x : Item) : x.fL.length < icnt x ∧ ∀ y ∈ x.fL, icnt y < icnt x := by
  have := icnts_len x.fL
  rw [icnt_eq]
  exact ⟨by omega, fun y hy => by have := icnts_mem x.fL y hy; omega⟩
theorem read_tot2 (x : Item) (hx : x.fL.length = 2) (h4 : ((idx x.fL 1).fL).length ≤ 5000) (e : Int) (k : Nat) : ∀ (j : Nat) (acc : List (List UInt8)), k + j = ((idx x.fL 1).fL).length → acc.length = j → ∃ r, Comes (step_wire_read x) (.L2 (j : Int) e acc) r := by
  induction k with
  | zero =>
    intro j acc hj ha
    refine ⟨⟨e, acc⟩, Comes.stop ?_⟩
    simp only [step_wire_read]
    rw [decide_eq_false (by omega), cond_false]
  | succ k ih =>
    intro j acc hj ha
    obtain ⟨r, hr⟩ := ih (j + 1) (acc ++ [(idx ((idx x.fL 1).fL) (j : Int)).fS]) (by omega) (by simp [ha])
    refine ⟨r, Comes.next ?_ hr⟩
    simp only [step_wire_read]
    rw [decide_eq_true (by omega), cond_true, gO_pos (by omega), gO_pos (by simp; omega), gO_pos (by unfold inI; omega)]
    rfl
theorem read_tot1 (x : Item) (hx : x.fL.length = 2) (h4 : ((idx x.fL 1).fL).length ≤ 5000) (M : Nat) (hM : minI ((((idx x.fL 0).fS).length : Nat) : Int) 4 = (M : Int)) (hM4 : M ≤ 4) (hMl : M ≤ ((idx x.fL 0).fS).length) (k : Nat) : ∀ (i v : Nat), k + i = M → v < 256 ^ i → ∃ r, Comes (step_wire_read x) (.L1 (i : Int) (v : Int)) r := by
  induction k with
  | zero =>
    intro i v hi hv
    obtain ⟨r, hr⟩ := read_tot2 x hx h4 (v : Int) _ 0 [] rfl rfl
    refine ⟨r, Comes.next ?_ hr⟩
    simp only [step_wire_read]
    rw [hM, decide_eq_false (by omega), cond_false, gO_pos (by omega)]
    rfl
  | succ k ih =>
    intro i v hi hv
    have h1 : i < ((idx x.fL 0).fS).length := by omega
    have hb : (((idx x.fL 0).fS)[i]).toNat < 256 := UInt8.toNat_lt _
    have h44 : (256 : Nat) ^ i ≤ 256 ^ 3 := Nat.pow_le_pow_right (by decide) (by omega)
    have h33 : (256 : Nat) ^ 3 = 16777216 := by decide
    obtain ⟨r, hr⟩ := ih (i + 1) (v * 256 + (((idx x.fL 0).fS)[i]).toNat) (by omega) (by rw [Nat.pow_succ]; omega)
    refine ⟨r, Comes.next ?_ hr⟩
    have hsh : shlI (v : Int) 8 = ((v * 256 : Nat) : Int) := by
      unfold shlI
      rw [show min (8 : Int).toNat 64 = 8 by decide]; omega
    simp only [step_wire_read]
    rw [hM, decide_eq_true (by omega), cond_true, gO_pos (by rw [hsh]; unfold inI; omega), gO_pos (by omega), gO_pos (by omega), gO_pos (by unfold inI; omega), idx_nat h1, orI_byte _ _ (by omega) hb]
    rfl
theorem read_tot (x : Item) (hx : icnt x ≤ 4096) : ∃ l, g_wire_read x = some l := by
  by_cases h2 : x.fL.length = 2
  · have h1 : 1 < x.fL.length := by omega
    have hk := (icnt_kids x).2 x.fL[1] (List.getElem_mem h1)
    have hk2 := (icnt_kids x.fL[1]).1
    have e1 : idx x.fL 1 = x.fL[1] := by
      show idx x.fL ((1 : Nat) : Int) = _
      exact idx_nat h1
    obtain ⟨M, hM, hM4, hMl⟩ : ∃ M : Nat, minI ((((idx x.fL 0).fS).length : Nat) : Int) 4 = (M : Int) ∧ M ≤ 4 ∧ M ≤ ((idx x.fL 0).fS).length := by
      unfold minI
      split
      · exact ⟨4, rfl, by omega, by omega⟩
      · exact ⟨((idx x.fL 0).fS).length, rfl, by omega, by omega⟩
    obtain ⟨r, hr⟩ := read_tot1 x h2 (by rw [e1]; omega) M hM hM4 hMl M 0 0 rfl (by decide)
    refine ⟨r, theC_eq (Comes.next ?_ hr)⟩
    simp only [step_wire_read]
    rw [decide_eq_true (by omega), Bool.not_true, cond_false, gO_pos (by omega)]
    rfl
  · refine ⟨⟨0, []⟩, theC_eq (Comes.stop ?_)⟩
    simp only [step_wire_read]
    rw [decide_eq_false (by omega), Bool.not_false, cond_true]

/-! ### Whatever the witness -/
theorem link_lenA (l : Link) (h1 : lnkB l = true) : (ienc (linkI l)).length ≤ 4620500 := by
  have hr := lnk_range h1
  have h3 : (bigN l.fEpoch.toNat).length ≤ 3 := bigN_len 3 _ (by rw [show (256 : Nat) ^ 3 = 16777216 from by decide]; omega)
  have h4 := texts_len 66000 (by omega) l.fProof (fun t ht => (badT_len (lnk_texts h1 t ht)).2)
  have h5 : (iencs (l.fProof.map tI)).length ≤ 4620420 := by omega
  have h6 := lI_len (l.fProof.map tI) (by omega)
  have h7 := tI_len (bigN l.fEpoch.toNat) (by omega)
  have h8 : (iencs [tI (bigN l.fEpoch.toNat), lI (l.fProof.map tI)]).length = (ienc (tI (bigN l.fEpoch.toNat))).length + (ienc (lI (l.fProof.map tI))).length := by simp [iencs]
  have h9 := lI_len [tI (bigN l.fEpoch.toNat), lI (l.fProof.map tI)] (by omega)
  unfold linkI
  omega
theorem links_lenA : ∀ ls : List Link, (∀ l ∈ ls, lnkB l = true) → (iencs (ls.map linkI)).length ≤ 4620500 * ls.length
  | [], _ => by simp [iencs]
  | l :: r, h => by
    have h2 := link_lenA l (h l (List.mem_cons_self ..))
    have h3 := links_lenA r fun x hx => h x (List.mem_cons_of_mem _ hx)
    rw [List.map_cons, iencs, List.length_append, List.length_cons, Nat.mul_succ]; omega
theorem wit_lenA (w : Witness) (hM : MayP w) : (ienc (witI w)).length ≤ 2 ^ 32 := by
  have h1 := links_lenA w.fLinks (May_link hM)
  have h64 := hM.2.1
  have h2 : (iencs (w.fLinks.map linkI)).length ≤ 295712000 := by omega
  have h3 := lI_len (w.fLinks.map linkI) (by omega)
  have h32 := w.fKey.2
  have h4 := tI_len w.fKey.1 (by omega)
  have h5 : (iencs [tI w.fKey.1, lI (w.fLinks.map linkI)]).length = (ienc (tI w.fKey.1)).length + (ienc (lI (w.fLinks.map linkI))).length := by simp [iencs]
  have h6 := lI_len [tI w.fKey.1, lI (w.fLinks.map linkI)] (by omega)
  unfold witI
  omega
theorem WPut_tot (w : Witness) : ∃ p, g_wire_Put w = some p ∧ (p.2 = 0 → MayP w ∧ p.1 = ienc (witI w)) := by
  by_cases hM : MayP w
  · have hlen := wit_lenA w hM
    by_cases hc : icnt (witI w) ≤ 4096
    · refine ⟨_, WPut_ok w hM _ (Put_ok (witI w) (witI_ok hM) (witI_rt w) (by decide) hlen hc), fun h => ⟨hM, ?_⟩⟩
      unfold putR at h ⊢
      cases hq : ((!decide ((0 : Int) = 0)) || decide ((4194304 : Int) < ((ienc (witI w)).length : Int))) with
      | false => rfl
      | true =>
        have h' : (bif ((!decide ((0 : Int) = 0)) || decide ((4194304 : Int) < ((ienc (witI w)).length : Int))) then (([] : List UInt8), (4 : Int)) else (ienc (witI w), 0)).2 = 0 := h
        rw [hq] at h'
        cases h'
    · exact ⟨_, WPut_ok w hM _ (Put_big (witI w) (witI_ok hM) (witI_rt w) (by decide) hlen (by omega)), fun h => by cases h⟩
  · exact ⟨_, WPut_no w hM, fun h => by cases h⟩
def zW : Witness := ⟨Arr.rep 32 0, []⟩
theorem WGet_L1 (s : List UInt8) (items : List Item) (hi4 : items.length ≤ 4096) (hit : ∀ y ∈ items, icnt y ≤ 4096) (key : Arr 32 UInt8) (k : Nat) : ∀ (i : Nat) (acc : List Link), k + i = items.length → acc.length = i →
    ∃ r : Witness × Int, Comes (step_wire_Get s) (.L1 items ((items.length : Nat) : Int) (i : Int) key acc) r ∧ (r = (zW, 6) ∨ (r.2 = 0 ∧ MayP r.1 ∧ s = ienc (witI r.1))) := by
  induction k with
  | zero =>
    intro i acc hi ha
    obtain ⟨p, hp, hp2⟩ := WPut_tot ⟨key, acc⟩
    cases hq : ((!decide (p.2 = 0)) || (!(p.1 == s))) with
    | true =>
      refine ⟨(zW, 6), Comes.stop ?_, .inl rfl⟩
      simp only [step_wire_Get]
      rw [decide_eq_false (by omega), cond_false, hp, Option.bind_some, hq]
      rfl
    | false =>
      have h0 : p.2 = 0 ∧ p.1 = s := by
        simp only [Bool.or_eq_false_iff, Bool.not_eq_false', decide_eq_true_eq, beq_iff_eq] at hq
        exact hq
      obtain ⟨h1, h2⟩ := hp2 h0.1
      refine ⟨(⟨key, acc⟩, 0), Comes.stop ?_, .inr ⟨rfl, h1, by rw [← h0.2, h2]⟩⟩
      simp only [step_wire_Get]
      rw [decide_eq_false (by omega), cond_false, hp, Option.bind_some, hq]
      rfl
  | succ k ih =>
    intro i acc hi ha
    have h1 : i < items.length := by omega
    obtain ⟨l, hl⟩ := read_tot items[i] (hit _ (List.getElem_mem h1))
    obtain ⟨r, hr, h2⟩ := ih (i + 1) (acc ++ [l]) (by omega) (by simp [ha])
    refine ⟨r, Comes.next ?_ hr, h2⟩
    simp only [step_wire_Get]
    rw [decide_eq_true (by omega), cond_true, gO_pos (by omega), idx_nat h1, hl, Option.bind_some, gO_pos (by simp; omega), gO_pos (by unfold inI; omega)]
    rfl
/-- What any bytes are read as. -/
theorem WGet_any (s : List UInt8) (hl : s.length ≤ 5000) : ∃ r : Witness × Int, g_wire_Get s = some r ∧ ((r.2 = 0 ∧ MayP r.1 ∧ s = ienc (witI r.1)) ∨ (r.1 = zW ∧ r.2 ≠ 0 ∧ ∃ y k a f, g_ref05_Read s 0 4096 = some (y, k, a, f) ∧ ((f = 0 ∧ r.2 = 6) ∨ (f ≠ 0 ∧ r.2 = f)))) := by
  rcases Get_Read s (by omega) with ⟨x, k, a, hx, h1, h2⟩ | ⟨e, he, h1, h2⟩
  · by_cases hk : (k : Int) = (s.length : Int)
    · have hW : g_rlp_Whole s = some (x, 0) := by
        unfold g_rlp_Whole
        rw [h1]
        simp [hk]
      by_cases hsh : x.fL.length = 2 ∧ ((idx x.fL 0).fS).length = 32
      · obtain ⟨s1, s2⟩ := hsh
        have h11 : 1 < x.fL.length := by omega
        have hk1 := (icnt_kids x).2 x.fL[1] (List.getElem_mem h11)
        have hk2 := icnt_kids x.fL[1]
        have e1 : idx x.fL 1 = x.fL[1] := by
          show idx x.fL ((1 : Nat) : Int) = _
          exact idx_nat h11
        obtain ⟨r, hr, h3⟩ := WGet_L1 s (idx x.fL 1).fL (by rw [e1]; omega) (fun y hy => by rw [e1] at hy; have := hk2.2 y hy; omega) (toArr 32 (idx x.fL 0).fS) _ 0 [] rfl rfl
        refine ⟨r, theC_eq (Comes.next ?_ hr), ?_⟩
        · simp only [step_wire_Get, hW, Option.bind_some]
          rw [decide_eq_false (by omega), cond_false, decide_true, Bool.not_true, cond_false, gO_pos (fun _ => by omega), decide_eq_true (by omega), decide_eq_true (by omega), Bool.not_true, Bool.or_false, cond_false, gO_pos (by omega), gO_pos (by omega), gO_pos (by omega), gO_pos (by omega)]
          rfl
        · rcases h3 with rfl | h3
          · exact .inr ⟨rfl, by decide, x, _, _, _, h2, .inl ⟨rfl, rfl⟩⟩
          · exact .inl h3
      · refine ⟨(zW, 6), theC_eq (Comes.stop ?_), .inr ⟨rfl, by decide, x, _, _, _, h2, .inl ⟨rfl, rfl⟩⟩⟩
        simp only [step_wire_Get, hW, Option.bind_some]
        have hb : ((!decide ((x.fL.length : Int) = 2)) || (!decide ((((idx x.fL 0).fS).length : Int) = 32))) = true := by
          simp only [Bool.or_eq_true, Bool.not_eq_true', decide_eq_false_iff_not]; omega
        rw [decide_eq_false (by omega), cond_false, decide_true, Bool.not_true, cond_false, gO_pos (fun h => by simp at h; omega), hb]
        rfl
    · have hW : g_rlp_Whole s = some (noI, 6) := by
        unfold g_rlp_Whole
        rw [h1]
        simp [hk, noI]
      refine ⟨(zW, 6), theC_eq (Comes.stop ?_), .inr ⟨rfl, by decide, x, _, _, _, h2, .inl ⟨rfl, rfl⟩⟩⟩
      simp only [step_wire_Get, hW, Option.bind_some]
      rw [decide_eq_false (by omega)]
      rfl
  · have hW : g_rlp_Whole s = some (noI, e) := by
      unfold g_rlp_Whole
      rw [h1]
      simp [he, noI]
    refine ⟨(zW, e), theC_eq (Comes.stop ?_), .inr ⟨rfl, he, noI, _, _, _, h2, .inr ⟨he, rfl⟩⟩⟩
    simp only [step_wire_Get, hW, Option.bind_some]
    rw [decide_eq_false (by omega), cond_false, decide_eq_false he]
    rfl
theorem WireGets_true (s : List UInt8) : g_law15_WireGets s = some true := by
  unfold g_law15_WireGets
  by_cases hl : s.length ≤ 5000
  · rw [decide_eq_false (by omega), cond_false]
    obtain ⟨r, hr, h⟩ := WGet_any s hl
    rw [hr, Option.bind_some]
    rcases h with ⟨h0, hM, hs⟩ | ⟨hz, h0, y, k, a, f, hR, hf⟩
    · rw [h0, show (!decide ((0 : Int) = 0)) = false from rfl, cond_false, awake15_ok, Option.bind_some, May_ok, mb_true hM]
      simp only [beq_self_eq_true, cond_true, Option.bind_some, Bool.and_self, RItem_ok r.1 hM, RPut_ok (witI r.1) (witI_ok hM) (wit_lenA r.1 hM), Bool.true_and]
      rw [← hs]; simp
    · rw [decide_eq_false h0, Bool.not_false, cond_true, hR, Option.bind_some, awake15_ok, Option.bind_some, hz]
      have hS : g_ref15_Same zW (⟨Arr.rep 32 0, []⟩ : Witness) = some true := by
        rw [R15Same_ok zW _ ⟨by decide, by simp [zW]⟩]
        exact congrArg some (sm_self zW)
      simp only [beq_self_eq_true, cond_true, hS, Option.bind_some, Bool.true_and]
      rcases hf with ⟨rfl, h6⟩ | ⟨hf, h6⟩
      · rw [h6]; rfl
      · rw [h6]; simp [hf]
  · rw [decide_eq_true (by omega), cond_true, awake15_ok]; rfl
theorem WireGets_fun (s : List UInt8) : Fun Try.prog 13 [.val (sV s)] (.val (.bool true)) := sim_law15_WireGets s true (WireGets_true s)
end Go.Proofs.Ytonlehebfeilmaa.K
