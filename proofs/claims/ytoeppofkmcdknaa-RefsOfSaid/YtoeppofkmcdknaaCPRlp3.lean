/- Package rlp: what was laid is read again. -/
import Derived.Test.YtoeppofkmcdknaaCPRlp2
namespace Go.Proofs.Ytoeppofkmcdknaa.K
open Go Go.RowKit
set_option linter.unusedSimpArgs false
set_option linter.unusedVariables false
def valN (l : List UInt8) : Nat := l.foldl (fun a b => a * 256 + b.toNat) 0
theorem valN_snoc (l : List UInt8) (b : UInt8) : valN (l ++ [b]) = valN l * 256 + b.toNat := by simp [valN]
theorem valN_big (n : Nat) : valN (bigN n) = n := by
  induction n using Nat.strongRecOn with
  | _ n ih =>
    by_cases h : n = 0
    · subst h; rw [bigN_zero]; rfl
    · rw [bigN_pos h, valN_snoc, ih _ (by omega)]
      have : (UInt8.ofNat (n % 256)).toNat = n % 256 := by rw [UInt8.toNat_ofNat']; omega
      rw [this]; omega
theorem valN_from (l : List UInt8) : ∀ z : Nat, l.foldl (fun a b => a * 256 + b.toNat) z = z * 256 ^ l.length + l.foldl (fun a b => a * 256 + b.toNat) 0 := by
  induction l with
  | nil => intro z; simp
  | cons b r ih =>
    intro z
    rw [List.foldl_cons, List.foldl_cons, ih, ih (0 * 256 + b.toNat), List.length_cons, Nat.pow_succ, Nat.add_mul, Nat.zero_mul, Nat.zero_add, Nat.mul_assoc, Nat.mul_comm 256, Nat.add_assoc]
theorem valN_app (a b : List UInt8) : valN (a ++ b) = valN a * 256 ^ b.length + valN b := by
  unfold valN
  rw [List.foldl_append, valN_from b]
theorem big_first {n : Nat} (h : n ≠ 0) : ∃ b r, bigN n = b :: r ∧ b.toNat ≠ 0 := by
  induction n using Nat.strongRecOn with
  | _ n ih =>
    by_cases h2 : n / 256 = 0
    · refine ⟨UInt8.ofNat (n % 256), [], by rw [bigN_pos h, h2, bigN_zero]; rfl, ?_⟩
      have : (UInt8.ofNat (n % 256)).toNat = n % 256 := by rw [UInt8.toNat_ofNat']; omega
      rw [this]; omega
    · obtain ⟨b, r, e, hb⟩ := ih _ (by omega) h2
      exact ⟨b, r ++ [UInt8.ofNat (n % 256)], by rw [bigN_pos h, e]; rfl, hb⟩
theorem orI_byte (a b : Nat) (ha : a < 2 ^ 40) (hb : b < 256) : orI (shlI (a : Int) 8) (b : Int) = ((a * 256 + b : Nat) : Int) := by
  have e1 : shlI (a : Int) 8 = ((a * 256 : Nat) : Int) := by
    unfold shlI
    rw [show min (8 : Int).toNat 64 = 8 by decide]; omega
  rw [e1]
  unfold orI
  have h1 : BitVec.ofInt 64 ((a * 256 : Nat) : Int) = BitVec.ofNat 64 (a * 256) := by rw [BitVec.ofInt_natCast]
  have h2 : BitVec.ofInt 64 ((b : Nat) : Int) = BitVec.ofNat 64 b := by rw [BitVec.ofInt_natCast]
  rw [h1, h2, BitVec.toNat_or, BitVec.toNat_ofNat, BitVec.toNat_ofNat, Nat.mod_eq_of_lt (by omega), Nat.mod_eq_of_lt (by omega)]
  have : a * 256 ||| b = a * 256 + b := by
    have := Nat.shiftLeft_add_eq_or_of_lt (i := 8) (b := b) (by omega) a
    rw [Nat.shiftLeft_eq] at this
    exact this.symm
  rw [this]
  exact wrap_in (by unfold inI; omega)
theorem get0 {s : List UInt8} (h : 0 < s.length) : idx s (0 : Int) = s.getD 0 0 := by
  show idx s ((0 : Nat) : Int) = _
  rw [idx_natL h]
  simp [List.getD_eq_getElem?_getD, List.getElem?_eq_getElem h]
theorem u8_toNat {n : Nat} (h : n < 256) : (UInt8.ofNat n).toNat = n := by rw [UInt8.toNat_ofNat']; omega
theorem hd_first (l : Bool) {k : Nat} (h : k ≤ 2 ^ 32) (t : List UInt8) : ((hd l k ++ t).getD 0 0).toNat = if k < 56 then hdC l + k else hdC l + 55 + (bigN k).length := by
  have h5 := big5 h
  have hc : hdC l ≤ 192 := by cases l <;> decide
  unfold hd
  split
  · simp only [List.cons_append, List.getD_cons_zero]
    rw [Nat.mod_eq_of_lt (by omega), u8_toNat (by omega)]
  · simp only [List.cons_append, List.getD_cons_zero]
    rw [Nat.mod_eq_of_lt (by omega), u8_toNat (by omega)]
theorem length_ok (l : Bool) (k : Nat) (h : k ≤ 2 ^ 32) (t : List UInt8) (ht : (hd l k ++ t).length ≤ 2 ^ 40) : g_rlp_length (hd l k ++ t) ((hdC l : Nat) : Int) = some (.inl ((k : Int), (((hd l k).length : Nat) : Int))) := by
  refine theC_eq ?_
  have h5 := big5 h
  have hc : hdC l ≤ 192 := by cases l <;> decide
  have hpos : 0 < (hd l k ++ t).length := by
    have := List.length_pos_iff.2 (hd_ne l k)
    rw [List.length_append]; omega
  have h1 := hd_first l h t
  have hlen := hd_len l k
  generalize hs : hd l k ++ t = s at h1 hpos ht
  by_cases hk : k < 56
  · rw [if_pos hk] at h1 hlen
    refine Comes.stop ?_
    simp only [step_rlp_length]
    rw [gO_pos (by omega), get0 hpos, h1, gO_pos (by unfold inI; omega), decide_eq_true (by omega), cond_true, hlen]
    have : ((hdC l + k : Nat) : Int) - ((hdC l : Nat) : Int) = (k : Int) := by omega
    rw [this]; rfl
  · rw [if_neg hk] at h1 hlen
    obtain ⟨b, r, hb, hb0⟩ := big_first (n := k) (by omega)
    have hsl : s.length = 1 + (bigN k).length + t.length := by rw [← hs, List.length_append, hlen]
    have hbl : (bigN k).length = r.length + 1 := by rw [hb]; rfl
    have hget : ∀ (i : Nat) (hi : i < (bigN k).length), idx s (1 + (i : Int)) = (bigN k)[i] := by
      intro i hi
      rw [show (1 : Int) + (i : Int) = ((i + 1 : Nat) : Int) by omega, idx_natL (by omega)]
      subst hs
      unfold hd
      simp only [if_neg hk, List.cons_append, List.getElem_cons_succ]
      rw [List.getElem_append_left]
    have hb1 : idx s (1 : Int) = b := by
      have := hget 0 (by omega)
      simp only [hb, List.getElem_cons_zero] at this
      exact this
    -- the loop
    have loop : ∀ (j i : Nat), j + i = (bigN k).length → Comes (step_rlp_length s ((hdC l : Nat) : Int)) (.L1 ((valN ((bigN k).take i) : Nat) : Int) (i : Int)) (.inl ((k : Int), (((hd l k).length : Nat) : Int))) := by
      intro j
      induction j with
      | zero =>
        intro i hi
        obtain rfl : i = (bigN k).length := by omega
        refine Comes.stop ?_
        rw [List.take_length, valN_big]
        simp only [step_rlp_length]
        rw [get0 hpos, h1, decide_eq_false (by omega), cond_false, decide_eq_true (by omega), must_true, Option.bind_some]
        simp only
        rw [gO_pos (by unfold inI; omega), hlen]
        have : (1 : Int) + (((hdC l + 55 + (bigN k).length : Nat) : Int) - ((hdC l : Nat) : Int) - 55) = ((1 + (bigN k).length : Nat) : Int) := by omega
        rw [this]
      | succ j ih =>
        intro i hi
        have hi2 : i < (bigN k).length := by omega
        have hsplit : bigN k = (bigN k).take i ++ ((bigN k)[i] :: (bigN k).drop (i + 1)) := by
          rw [← List.drop_eq_getElem_cons hi2, List.take_append_drop]
        have hv : valN ((bigN k).take i) * 256 ≤ k := by
          have h2 := valN_big k
          rw [hsplit, valN_app, List.length_cons, Nat.pow_succ] at h2
          have : 1 ≤ 256 ^ ((bigN k).drop (i + 1)).length := Nat.one_le_pow _ _ (by omega)
          have : valN ((bigN k).take i) * 256 ≤ valN ((bigN k).take i) * (256 ^ ((bigN k).drop (i + 1)).length * 256) := Nat.mul_le_mul_left _ (by omega)
          omega
        have hn : valN ((bigN k).take (i + 1)) = valN ((bigN k).take i) * 256 + ((bigN k)[i]).toNat := by
          rw [List.take_succ_eq_append_getElem hi2, valN_snoc]
        have hbt : ((bigN k)[i]).toNat < 256 := UInt8.toNat_lt _
        refine Comes.next (c' := .L1 ((valN ((bigN k).take (i + 1)) : Nat) : Int) ((i + 1 : Nat) : Int)) ?_ (ih (i + 1) (by omega))
        simp only [step_rlp_length]
        have hsh : shlI ((valN ((bigN k).take i) : Nat) : Int) 8 = ((valN ((bigN k).take i) * 256 : Nat) : Int) := by
          unfold shlI
          rw [show min (8 : Int).toNat 64 = 8 by decide]; omega
        rw [get0 hpos, h1, decide_eq_true (by omega), cond_true, decide_eq_true (by omega), must_true, Option.bind_some]
        simp only
        rw [gO_pos (by rw [hsh]; unfold inI; omega), gO_pos (by unfold inI; omega), gO_pos (by omega), gO_pos (by unfold inI; omega), hget i hi2, orI_byte _ _ (by omega) hbt, hn]
        rfl
    refine Comes.next (c' := .L1 ((valN ((bigN k).take 0) : Nat) : Int) ((0 : Nat) : Int)) ?_ (loop _ 0 rfl)
    simp only [step_rlp_length]
    rw [gO_pos (by omega), get0 hpos, h1, gO_pos (by unfold inI; omega), decide_eq_false (by omega), cond_false, gO_pos (by unfold inI; omega), decide_eq_true (by omega), must_true, Option.bind_some]
    simp only
    rw [gO_pos (by omega), hb1, decide_eq_false (by omega), Bool.not_false, must_true, Option.bind_some]
    rfl
theorem sub_midL {α : Type} (a b c : List α) : sub (a ++ (b ++ c)) ((a.length : Nat) : Int) (((a.length : Nat) : Int) + ((b.length : Nat) : Int)) = b := by
  unfold sub
  rw [Int.toNat_natCast, List.drop_left', show (((a.length : Nat) : Int) + ((b.length : Nat) : Int) - ((a.length : Nat) : Int)).toNat = b.length by omega, List.take_left']
  · rfl
  · rfl
theorem sub_rest {α : Type} (a b : List α) : sub (a ++ b) ((a.length : Nat) : Int) (((a ++ b).length : Nat) : Int) = b := by
  unfold sub
  rw [Int.toNat_natCast, List.drop_left' rfl, List.take_of_length_le (by rw [List.length_append]; omega)]
theorem beq_nil {s : List UInt8} (h : s ≠ []) : (s == ([] : List UInt8)) = false := by
  cases s with
  | nil => exact absurd rfl h
  | cons => rfl
theorem get_L2 (f : List UInt8 → Int → counter → Option (((Item × Int) ⊕ Int) × counter)) (s : List UInt8) (d : Nat) (hd64 : d ≤ 64) (c0 : counter) (kk n : Nat) (hkn : kk + n ≤ 2 ^ 41) : ∀ (l : List Item) (acc : List Item) (c : Nat),
    (∀ y ∈ l, ∀ (c : Nat) (t : List UInt8), (ienc y ++ t).length ≤ 2 ^ 40 → (ienc y).length ≤ 2 ^ 32 → c + icnt y ≤ 4096 → f (ienc y ++ t) ((d + 1 : Nat) : Int) ⟨(c : Int)⟩ = some (.inl (y, (((ienc y).length : Nat) : Int)), ⟨((c + icnt y : Nat) : Int)⟩)) →
    (iencs l).length ≤ 2 ^ 32 → c + icnts l ≤ 4096 → acc.length + icnts l ≤ 4096 →
    Comes (step_rlp_counter_get f s (d : Int) c0) (.L2 (n : Int) (kk : Int) (iencs l) (c : Int) acc) (.inl (⟨true, [], acc ++ l⟩, ((kk + n : Nat) : Int)), ⟨((c + icnts l : Nat) : Int)⟩)
  | [], acc, c, hf, hl, hc, ha => by
    refine Comes.stop ?_
    simp only [step_rlp_counter_get, iencs, icnts, Nat.add_zero, List.append_nil]
    rw [show (!(([] : List UInt8) == [])) = false from rfl, cond_false, gO_pos (by unfold inI; omega)]
    rw [show (kk : Int) + (n : Int) = ((kk + n : Nat) : Int) by omega]
  | y :: r, acc, c, hf, hl, hc, ha => by
    simp only [iencs, icnts] at hl hc ha ⊢
    rw [List.length_append] at hl
    have e := hf y (List.mem_cons_self ..) c (iencs r) (by rw [List.length_append]; omega) (by omega) (by omega)
    have hy := icnt_pos y
    have := get_L2 f s d hd64 c0 kk n hkn r (acc ++ [y]) (c + icnt y) (fun z hz => hf z (List.mem_cons_of_mem _ hz)) (by omega) (by omega) (by rw [List.length_append, List.length_singleton]; omega)
    rw [List.append_assoc, List.singleton_append, Nat.add_assoc] at this
    refine Comes.next ?_ this
    simp only [step_rlp_counter_get]
    rw [beq_nil (fun h => ienc_ne y (List.append_eq_nil_iff.1 h).1), Bool.not_false, cond_true, gO_pos (by unfold inI; omega), show (d : Int) + 1 = ((d + 1 : Nat) : Int) by omega, e, Option.bind_some]
    simp only
    rw [gO_pos (by simp only [List.length_singleton]; omega), gO_pos (by rw [List.length_append]; omega), sub_rest]
theorem get_rec : ∀ (n m : Nat) (x : Item) (d c : Nat) (t : List UInt8), RT n x → n ≤ m → d + n ≤ 65 → (ienc x ++ t).length ≤ 2 ^ 40 → (ienc x).length ≤ 2 ^ 32 → c + icnt x ≤ 4096 →
    rec_rlp_counter_get m (ienc x ++ t) (d : Int) ⟨(c : Int)⟩ = some (.inl (x, (((ienc x).length : Nat) : Int)), ⟨((c + icnt x : Nat) : Int)⟩)
  | 0, _, _, _, _, _, h, _, _, _, _, _ => h.elim
  | n + 1, 0, _, _, _, _, _, hm, _, _, _, _ => by omega
  | n + 1, m + 1, x, d, c, t, hr, hm, hd', hlt, hlen, hc => by
    show theC (step_rlp_counter_get (rec_rlp_counter_get m) (ienc x ++ t) (d : Int) ⟨(c : Int)⟩) .S = _
    refine theC_eq ?_
    have h1 := one_ok (d := d) (c := c) (by omega) (by have := icnt_pos x; omega)
    have hne : ienc x ++ t ≠ [] := fun h => ienc_ne x (List.append_eq_nil_iff.1 h).1
    have hpos : 0 < (ienc x ++ t).length := List.length_pos_iff.2 hne
    cases hl : x.fList with
    | false =>
      have hnil := hr.1 hl
      have hx : x = ⟨false, x.fS, []⟩ := by cases x; simp_all
      have e0 : icnt x = 1 := by rw [icnt_eq, hnil]; rfl
      rw [e0]
      refine Comes.stop ?_
      by_cases h2 : x.fS.length = 1 ∧ (x.fS.getD 0 0).toNat < 128
      · have he : ienc x = x.fS := by rw [ienc_eq, if_pos hl, if_pos h2]
        have hb : (ienc x ++ t).getD 0 0 = x.fS.getD 0 0 := by
          rw [he]
          cases hS : x.fS with
          | nil => rw [hS] at h2; simp at h2
          | cons b r => rfl
        simp only [step_rlp_counter_get, h1, Option.bind_some, beq_nil hne, Bool.not_false, must_true]
        rw [gO_pos (by omega), get0 hpos, hb, decide_eq_true (by omega), cond_true, gO_pos (by omega)]
        have hs : sub (ienc x ++ t) 0 1 = x.fS := by
          have := sub_midL ([] : List UInt8) x.fS t
          rw [List.nil_append, h2.1] at this
          rw [he]; exact this
        rw [hs]
        simp only [g_rlp_Text, Option.bind_some]
        rw [← hx, he, h2.1]
        rfl
      · have he : ienc x = hd false x.fS.length ++ x.fS := by rw [ienc_eq, if_pos hl, if_neg h2]
        have hk : x.fS.length ≤ 2 ^ 32 := by rw [he, List.length_append] at hlen; omega
        have hcat : ienc x ++ t = hd false x.fS.length ++ (x.fS ++ t) := by rw [he, List.append_assoc]
        have hf := hd_first false hk (x.fS ++ t)
        have hL := length_ok false x.fS.length hk (x.fS ++ t) (by rw [← hcat]; exact hlt)
        have hh := hd_le false hk
        have h5 := big5 hk
        rw [← hcat] at hf hL
        have hge : 128 ≤ ((ienc x ++ t).getD 0 0).toNat ∧ ((ienc x ++ t).getD 0 0).toNat < 192 := by
          rw [hf]; split <;> simp [hdC] <;> omega
        have hll : (ienc x ++ t).length = (hd false x.fS.length).length + x.fS.length + t.length := by rw [hcat]; simp only [List.length_append]; omega
        simp only [step_rlp_counter_get, h1, Option.bind_some, beq_nil hne, Bool.not_false, must_true]
        rw [gO_pos (by omega), get0 hpos, decide_eq_false (by omega), cond_false, gO_pos (by omega), decide_eq_false (by omega), cond_false, Option.bind_some]
        rw [show g_rlp_length (ienc x ++ t) 128 = _ from hL, Option.bind_some]
        simp only
        rw [gO_pos (by unfold inI; omega), decide_eq_true (by omega), must_true, Option.bind_some]
        simp only
        have hs : sub (ienc x ++ t) (((hd false x.fS.length).length : Nat) : Int) ((((hd false x.fS.length).length : Nat) : Int) + ((x.fS.length : Nat) : Int)) = x.fS := by rw [hcat]; exact sub_midL _ _ _
        rw [gO_pos (by unfold inI; omega), gO_pos (by omega), Bool.not_false, cond_true, hs, gO_pos (by intro h; simp only [Bool.not_eq_false', decide_eq_true_eq] at h; omega)]
        have hm1 : ((!decide ((x.fS.length : Int) = 1)) || decide (128 ≤ (((idx x.fS 0).toNat : Nat) : Int))) = true := by
          by_cases h3 : x.fS.length = 1
          · rw [get0 (by omega)]
            have : ¬ (x.fS.getD 0 0).toNat < 128 := fun h => h2 ⟨h3, h⟩
            rw [decide_eq_true (p := (128 : Int) ≤ _) (by omega), Bool.or_true]
          · rw [decide_eq_false (by omega)]; rfl
        rw [hm1, must_true, Option.bind_some]
        simp only [g_rlp_Text, Option.bind_some]
        rw [gO_pos (by unfold inI; omega), ← hx, he, List.length_append]
        rw [show (((hd false x.fS.length).length : Nat) : Int) + ((x.fS.length : Nat) : Int) = (((hd false x.fS.length).length + x.fS.length : Nat) : Int) by omega]
    | true =>
      have hnil := hr.2.1 hl
      have hx : x = ⟨true, [], x.fL⟩ := by cases x; simp_all
      have he : ienc x = hd true (iencs x.fL).length ++ iencs x.fL := by rw [ienc_eq, if_neg (by rw [hl]; simp)]
      have hk : (iencs x.fL).length ≤ 2 ^ 32 := by rw [he, List.length_append] at hlen; omega
      have hcat : ienc x ++ t = hd true (iencs x.fL).length ++ (iencs x.fL ++ t) := by rw [he, List.append_assoc]
      have hf := hd_first true hk (iencs x.fL ++ t)
      have hL := length_ok true (iencs x.fL).length hk (iencs x.fL ++ t) (by rw [← hcat]; exact hlt)
      have hh := hd_le true hk
      have h5 := big5 hk
      rw [← hcat] at hf hL
      have hge : 192 ≤ ((ienc x ++ t).getD 0 0).toNat := by
        rw [hf]; split <;> simp [hdC]; omega
      have hll : (ienc x ++ t).length = (hd true (iencs x.fL).length).length + (iencs x.fL).length + t.length := by rw [hcat]; simp only [List.length_append]; omega
      rw [icnt_eq] at hc ⊢
      have hs : sub (ienc x ++ t) (((hd true (iencs x.fL).length).length : Nat) : Int) ((((hd true (iencs x.fL).length).length : Nat) : Int) + (((iencs x.fL).length : Nat) : Int)) = iencs x.fL := by rw [hcat]; exact sub_midL _ _ _
      have key := get_L2 (rec_rlp_counter_get m) (ienc x ++ t) d (by omega) ⟨(c : Int)⟩ (hd true (iencs x.fL).length).length (iencs x.fL).length (by omega) x.fL [] (c + 1) (fun y hy c t h1 h2 h3 => get_rec n m y (d + 1) c t (hr.2.2 y hy) (by omega) (by omega) h1 h2 h3) hk (by omega) (by rw [List.length_nil]; omega)
      rw [List.nil_append, ← hx, ← List.length_append, ← he] at key
      rw [← Nat.add_assoc]
      refine Comes.next ?_ key
      simp only [step_rlp_counter_get, h1, Option.bind_some, beq_nil hne, Bool.not_false, must_true]
      rw [gO_pos (by omega), get0 hpos, decide_eq_false (by omega), cond_false, gO_pos (by omega), decide_eq_true (by omega), cond_true, Option.bind_some]
      rw [show g_rlp_length (ienc x ++ t) 192 = _ from hL, Option.bind_some]
      simp only
      rw [gO_pos (by unfold inI; omega), decide_eq_true (by omega), must_true, Option.bind_some]
      simp only
      rw [gO_pos (by unfold inI; omega), gO_pos (by omega), Bool.not_true, cond_false, hs]
theorem Get_ok {n : Nat} (x : Item) (t : List UInt8) (hr : RT n x) (hn : n ≤ 65) (hlt : (ienc x ++ t).length ≤ 2 ^ 40) (hlen : (ienc x).length ≤ 2 ^ 32) (hc : icnt x ≤ 4096) : g_rlp_Get (ienc x ++ t) = some (x, (((ienc x).length : Nat) : Int), 0) := by
  have : g_rlp_counter_get (ienc x ++ t) 0 ⟨0⟩ = some (.inl (x, (((ienc x).length : Nat) : Int)), ⟨((0 + icnt x : Nat) : Int)⟩) := theR_eq n fun m hm => get_rec n m x 0 0 t hr hm (by omega) hlt hlen (by omega)
  unfold g_rlp_Get
  rw [this]; rfl
theorem Whole_ok {n : Nat} (x : Item) (hr : RT n x) (hn : n ≤ 65) (hlen : (ienc x).length ≤ 2 ^ 32) (hc : icnt x ≤ 4096) : g_rlp_Whole (ienc x) = some (x, 0) := by
  have := Get_ok x [] hr hn (by rw [List.append_nil]; omega) hlen hc
  rw [List.append_nil] at this
  unfold g_rlp_Whole
  rw [this]
  simp
end Go.Proofs.Ytoeppofkmcdknaa.K
