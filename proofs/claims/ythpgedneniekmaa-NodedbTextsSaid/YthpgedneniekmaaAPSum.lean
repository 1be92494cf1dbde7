import Derived.Test.YthpgedneniekmaaAPSha
import Derived.Test.YthpgedneniekmaaAWSum
import Derived.Test.YthpgedneniekmaaAPNum
/- Package sum: what it reckons is the plain sum of PSha. -/
namespace Go.Proofs.Ythpgedneniekmaa.K
open Go
set_option linter.unusedVariables false
set_option linter.unusedSimpArgs false
theorem rotl_amt : ∀ n : Fin 32, 0 < n.val → ((BitVec.ofInt 64 (0 - (n.val : Int))) &&& (31 : BitVec 64)).toNat = 32 - n.val ∧ ((32 : BitVec 64) - ((BitVec.ofInt 64 (0 - (n.val : Int))) &&& (31 : BitVec 64))).toNat = n.val := by decide
theorem rotl_ok (x : BitVec 32) (n : Nat) (h : 0 < n ∧ n < 32) : g_math_bits_RotateLeft32 x (0 - (n : Int)) = some (rotr x n) := by
  obtain ⟨h1, h2⟩ := rotl_amt ⟨n, h.2⟩ h.1
  simp only at h1 h2
  unfold g_math_bits_RotateLeft32
  rw [gO_pos (by omega), gO_pos (by omega), h1, h2, rot_go x n h]
  unfold wshl wshr
  rw [show min (((32 - n : Nat) : Int)).toNat 32 = 32 - n by omega, show min ((n : Int)).toNat 32 = n by omega]
theorem mix1_ok (x : BitVec 32) (n : Nat) (h : 0 < n ∧ n < 32) : g_sum_mix_1 (n : Int) x = some (rotr x n) := by
  unfold g_sum_mix_1
  rw [gO_pos (by unfold inI; omega), rotl_ok x n h]; rfl
theorem mix_ok (x : BitVec 32) (a b c : Nat) (s : Bool) (ha : 0 < a ∧ a < 32) (hb : 0 < b ∧ b < 32) (hc : 0 < c ∧ c < 32) : g_sum_mix x (a : Int) (b : Int) (c : Int) s = some (mixS x a b c s) := by
  unfold g_sum_mix mixS
  rw [mix1_ok x a ha, mix1_ok x b hb, mix1_ok x c hc]
  cases s with
  | true =>
    simp only [cond_true, Option.bind_some, if_true]
    rw [gO_pos (by omega)]
    unfold wshr
    rw [show min ((c : Int)).toNat 32 = c by omega]
  | false => rfl
theorem word_ok (s : List UInt8) (h : 4 ≤ s.length) : g_sum_word s = some (be32 (s.getD 0 0) (s.getD 1 0) (s.getD 2 0) (s.getD 3 0)) := by
  have e : ∀ b : UInt8, BitVec.ofInt 32 ((b.toNat : Nat) : Int) = b.toBitVec.setWidth 32 := by
    intro b
    apply BitVec.eq_of_toNat_eq
    have := b.toNat_lt
    rw [BitVec.toNat_setWidth, BitVec.toNat_ofInt]
    show ((b.toNat : Int) % (2 ^ 32 : Nat)).toNat = b.toNat % 2 ^ 32
    omega
  unfold g_sum_word be32
  rw [gO_pos (by omega), gO_pos (by omega), gO_pos (by omega), gO_pos (by omega), e, e, e, e]
  rfl
theorem words_L1 (s : List UInt8) (h : s.length = 64) : ∃ r : Arr 64 (BitVec 32), r.1 = wUpto s 64 ∧ g_sum_words s = some r := by
  have P : ∀ n, n ≤ 64 → (wArr s n).length = 64 := fun n h => wArr_len h
  let A : Nat → Arr 64 (BitVec 32) := fun n => if h : n ≤ 64 then ⟨wArr s n, P n h⟩ else Arr.rep 64 0
  have hA : ∀ n, n ≤ 64 → (A n).1 = wArr s n := by intro n h; show (if h : n ≤ 64 then (⟨wArr s n, P n h⟩ : Arr 64 (BitVec 32)) else Arr.rep 64 0).1 = _; rw [dif_pos h]
  have get : ∀ n i, n ≤ 64 → i < n → idx (A n).1 (i : Int) = wAt s i := by
    intro n i h1 h2
    rw [hA n h1, idx_nat]; exact wArr_get h2
  refine ⟨A 64, by rw [hA 64 (Nat.le_refl _), wArr_full], theC_eq (Comes.next (c' := .L1 0 (A 0)) ?_ ?_)⟩
  · have : A 0 = Arr.rep 64 0 := Subtype.ext ((hA 0 (by omega)).trans (wArr_zero s).symm)
    rw [this]; rfl
  · refine Comes.upto (step := step_sum_words s) (fun i => .L1 (i : Int) (A i)) 16 ?_ ?_
    · intro i hi
      have e1 : (4 : Int) * (i : Int) = ((4 * i : Nat) : Int) := by omega
      have hw := word_ok (s.drop (4 * i)) (by rw [List.length_drop]; omega)
      have g : ∀ k, (s.drop (4 * i)).getD k 0 = s.getD (4 * i + k) 0 := by intro k; simp [List.getD_eq_getElem?_getD]
      rw [g, g, g, g, Nat.add_zero, ← wAt_low hi] at hw
      have hn : (A i).put (i : Int) (wAt s i) = A (i + 1) := by
        apply Subtype.ext
        show (A i).1.set (i : Int).toNat (wAt s i) = _
        rw [Int.toNat_natCast, hA i (by omega), hA (i + 1) (by omega), wArr_set (by omega)]
      simp only [step_sum_words]
      rw [decide_eq_true (by omega), cond_true, gO_pos (by unfold inI; omega), gO_pos (by omega), e1, sub_suf, hw, Option.bind_some, gO_pos (by omega), gO_pos (by unfold inI; omega), hn]
      rfl
    · refine Comes.next (c' := .L2 16 (A 16)) ?_ ?_
      · simp only [step_sum_words]
        rw [decide_eq_false (by omega), cond_false]
      · have := Comes.upto (step := step_sum_words s) (fun j => .L2 ((16 + j : Nat) : Int) (A (16 + j))) 48 (r := A 64) (by
          intro j hj
          have d16 : ((16 + j : Nat) : Int) - 16 = ((16 + j - 16 : Nat) : Int) := by omega
          have d15 : ((16 + j : Nat) : Int) - 15 = ((16 + j - 15 : Nat) : Int) := by omega
          have d7 : ((16 + j : Nat) : Int) - 7 = ((16 + j - 7 : Nat) : Int) := by omega
          have d2 : ((16 + j : Nat) : Int) - 2 = ((16 + j - 2 : Nat) : Int) := by omega
          have hn : (A (16 + j)).put ((16 + j : Nat) : Int) (wAt s (16 + j)) = A (16 + j + 1) := by
            apply Subtype.ext
            show (A (16 + j)).1.set ((16 + j : Nat) : Int).toNat (wAt s (16 + j)) = _
            rw [Int.toNat_natCast, hA (16 + j) (by omega), hA (16 + j + 1) (by omega), wArr_set (by omega)]
          simp only [step_sum_words]
          rw [decide_eq_true (by omega), cond_true, d16, d15, d7, d2, gO_pos (by unfold inI; omega), gO_pos (by omega), gO_pos (by unfold inI; omega), gO_pos (by omega), get _ _ (by omega) (by omega), get _ _ (by omega) (by omega), get _ _ (by omega) (by omega), get _ _ (by omega) (by omega)]
          rw [show g_sum_mix (wAt s (16 + j - 15)) 7 18 3 true = some (mixS (wAt s (16 + j - 15)) 7 18 3 true) from mix_ok _ 7 18 3 true (by omega) (by omega) (by omega), Option.bind_some, gO_pos (by unfold inI; omega), gO_pos (by omega), gO_pos (by unfold inI; omega), gO_pos (by omega),
            show g_sum_mix (wAt s (16 + j - 2)) 17 19 10 true = some (mixS (wAt s (16 + j - 2)) 17 19 10 true) from mix_ok _ 17 19 10 true (by omega) (by omega) (by omega), Option.bind_some, gO_pos (by omega), gO_pos (by unfold inI; omega), ← wAt_high (by omega), hn]
          rfl) (by
          refine Comes.stop ?_
          simp only [step_sum_words]
          rw [decide_eq_false (by omega)]
          rfl)
        exact this
theorem step_ok (h : Arr 8 (BitVec 32)) (s : List UInt8) (hs : s.length = 64) : ∃ r : Arr 8 (BitVec 32), r.1 = shaStep h.1 s ∧ g_sum_step h s = some r := by
  obtain ⟨w, hw1, hw2⟩ := words_L1 s hs
  let B : Nat → Arr 8 (BitVec 32) := fun n => ⟨rndN s h.1 n, rndN_len s h.1 n h.2⟩
  let K : Arr 64 (BitVec 32) := ⟨shaK, rfl⟩
  have hwg : ∀ i : Nat, i < 64 → idx w.1 (i : Int) = wAt s i := by intro i hi; rw [hw1, idx_nat]; exact wUpto_get hi
  let A : Nat → Arr 8 (BitVec 32) := fun n => if hn : n ≤ 8 then ⟨addN h.1 (B 64).1 n, addN_len h.1 _ n h.2 (B 64).2 hn⟩ else h
  have hA : ∀ n, n ≤ 8 → (A n).1 = addN h.1 (B 64).1 n := by
    intro n hn
    show (if hn : n ≤ 8 then (⟨addN h.1 (B 64).1 n, addN_len h.1 _ n h.2 (B 64).2 hn⟩ : Arr 8 (BitVec 32)) else h).1 = _
    rw [dif_pos hn]
  refine ⟨A 8, hA 8 (Nat.le_refl _), theC_eq (Comes.next (c' := .L1 0 w K h) ?_ ?_)⟩
  · simp only [step_sum_step]
    rw [hw2]; rfl
  · refine Comes.upto (step := step_sum_step h s) (fun i => .L1 (i : Int) w K (B i)) 64 ?_ ?_
    · intro i hi
      have hm1 : g_sum_mix (idx (B i).1 (4 : Int)) 6 11 25 false = some (mixS ((B i).1.getD 4 0) 6 11 25 false) := mix_ok _ 6 11 25 false (by omega) (by omega) (by omega)
      have hm2 : g_sum_mix (idx (B i).1 (0 : Int)) 2 13 22 false = some (mixS ((B i).1.getD 0 0) 2 13 22 false) := mix_ok _ 2 13 22 false (by omega) (by omega) (by omega)
      have hk : idx K.1 (i : Int) = shaK.getD i 0 := idx_nat _ _
      simp only [step_sum_step]
      rw [decide_eq_true (by omega), cond_true, hm1, Option.bind_some, gO_pos (by omega), gO_pos (by omega), hm2, Option.bind_some, gO_pos (by unfold inI; omega), hk, hwg i hi]
      rfl
    · refine Comes.next (c' := .L2 0 h (B 64)) ?_ ?_
      · simp only [step_sum_step]
        rw [decide_eq_false (by omega)]; rfl
      · have h0 : A 0 = h := Subtype.ext ((hA 0 (by omega)).trans (addN_zero _ _))
        have := Comes.upto (step := step_sum_step h s) (fun i => .L2 (i : Int) (A i) (B 64)) 8 (r := A 8) (by
          intro i hi
          have hlen : h.1.length = 8 := h.2
          have hB : (B 64).1.length = 8 := (B 64).2
          have e1 : idx (A i).1 (i : Int) = (addN h.1 (B 64).1 i).getD i 0 := by rw [hA i (by omega), idx_nat]; rfl
          have e2 : idx (B 64).1 (i : Int) = (B 64).1.getD i 0 := idx_nat _ _
          have hn : (A i).put (i : Int) ((addN h.1 (B 64).1 i).getD i 0 + (B 64).1.getD i 0) = A (i + 1) := by
            apply Subtype.ext
            show (A i).1.set (i : Int).toNat _ = _
            rw [Int.toNat_natCast, hA i (by omega), hA (i + 1) (by omega), addN_set (by omega) (by omega)]
          simp only [step_sum_step]
          rw [decide_eq_true (by omega), cond_true, gO_pos (by omega), gO_pos (by omega), gO_pos (by omega), gO_pos (by unfold inI; omega), e1, e2, hn]
          rfl) (by
          refine Comes.stop ?_
          simp only [step_sum_step]
          rw [decide_eq_false (by omega)]; rfl)
        rw [h0] at this
        exact this
theorem leB_R (n : Nat) : ∀ w, leB n w = leR n w
  | 0 => rfl
  | w + 1 => by rw [leB_succ, leR_succ, leB_R n w, ofNat_mod256]
theorem filled_ok (s : List UInt8) (hs : s.length ≤ 1000000) : g_sum_filled s = some (fillS s) := by
  have hpad : padN s.length < 64 := by unfold padN; omega
  refine theC_eq (Comes.next (c' := .L1 (s ++ [128])) ?_ ?_)
  · simp only [step_sum_filled]
    rw [gO_pos (by omega), gO_pos (by simp only [List.length_singleton]; omega)]
  · refine Comes.upto (step := step_sum_filled s) (fun j => .L1 (s ++ 128 :: List.replicate j 0)) (padN s.length) ?_ ?_
    · intro j hj
      have hl : (s ++ 128 :: List.replicate j (0 : UInt8)).length = s.length + 1 + j := by simp; omega
      have e : s ++ 128 :: List.replicate j (0 : UInt8) ++ [0] = s ++ 128 :: List.replicate (j + 1) 0 := by rw [List.append_assoc, List.cons_append, rep_snoc]
      have hne : ¬ (((s.length + 1 + j : Nat) : Int).tmod 64 = 56) := by
        rw [Int.tmod_eq_emod_of_nonneg (by omega)]
        unfold padN at hj
        omega
      simp only [step_sum_filled]
      rw [hl, decide_eq_false hne, Bool.not_false, cond_true, gO_pos (by simp only [List.length_singleton]; omega), e]
    · have hl : (s ++ 128 :: List.replicate (padN s.length) (0 : UInt8)).length = s.length + 1 + padN s.length := by simp; omega
      have he : ((s.length + 1 + padN s.length : Nat) : Int).tmod 64 = 56 := by
        rw [Int.tmod_eq_emod_of_nonneg (by omega)]
        unfold padN
        omega
      have hN := Num_ok (BitVec.ofInt 64 (s.length : Int) * (8 : BitVec 64)) 8 (by omega)
      have hv : (BitVec.ofInt 64 (s.length : Int) * (8 : BitVec 64)).toNat = s.length * 8 := by
        rw [BitVec.toNat_mul, BitVec.toNat_ofInt]
        show ((s.length : Int) % (2 ^ 64 : Nat)).toNat * 8 % 2 ^ 64 = _
        omega
      rw [hv, leB_R] at hN
      have hL := leR_len (s.length * 8) 8
      refine Comes.next (c' := .L2 (fill0 s) (leR (s.length * 8) 8) 7) ?_ ?_
      · simp only [step_sum_filled]
        rw [hl, decide_eq_true he, Bool.not_true, cond_false, show g_wide_Num (BitVec.ofInt 64 (s.length : Int) * (8 : BitVec 64)) 8 = some (leR (s.length * 8) 8) from hN]
        rfl
      · unfold fillS
        generalize leR (s.length * 8) 8 = l at hL
        have hf0 := fill0_len s
        have h8 : fill0 s ++ (l.drop (8 - 0)).reverse = fill0 s := by rw [List.drop_eq_nil_of_le (by omega)]; simp
        have := Comes.upto (step := step_sum_filled s) (fun j => .L2 (fill0 s ++ (l.drop (8 - j)).reverse) l (7 - (j : Int))) 8 (r := fill0 s ++ l.reverse) (by
          intro j hj
          have hx : idx l (7 - (j : Int)) = l.getD (7 - j) 0 := by
            rw [show (7 : Int) - (j : Int) = ((7 - j : Nat) : Int) by omega, idx_nat]; rfl
          have hd := drop_rev (l := l) (j := 7 - j) (by omega)
          rw [show 7 - j + 1 = 8 - j by omega] at hd
          have hlen : (fill0 s ++ (l.drop (8 - j)).reverse).length ≤ s.length + 100 := by
            rw [List.length_append, List.length_reverse, List.length_drop]; omega
          simp only [step_sum_filled]
          rw [decide_eq_true (by omega), cond_true, gO_pos (by omega), hx, gO_pos (by simp only [List.length_singleton]; omega), gO_pos (by unfold inI; omega), List.append_assoc, hd, show 8 - (j + 1) = 7 - j by omega, show (7 : Int) - (j : Int) - 1 = 7 - ((j + 1 : Nat) : Int) by omega]) (by
          refine Comes.stop ?_
          simp only [step_sum_filled]
          rw [decide_eq_false (by omega), cond_false, show 8 - 8 = 0 from rfl, List.drop_zero])
        rw [h8, show (7 : Int) - ((0 : Nat) : Int) = 7 from rfl] at this
        exact this
theorem fill_set (f : Nat → UInt8) (n i : Nat) (h : i < n) : ((List.range i).map f ++ List.replicate (n - i) 0).set i (f i) = (List.range (i + 1)).map f ++ List.replicate (n - (i + 1)) 0 := by
  rw [List.set_append_right _ _ (by simp)]
  simp only [List.length_map, List.length_range, Nat.sub_self]
  rw [show n - i = (n - (i + 1)) + 1 by omega, List.replicate_succ, List.set_cons_zero, List.range_succ, List.map_append, List.append_assoc]
  rfl
theorem Of_L1 (s : List UInt8) : ∀ (k : Nat) (t : List UInt8) (h : Arr 8 (BitVec 32)), t.length = 64 * k → ∃ g : Arr 8 (BitVec 32), g.1 = shaFold h.1 t ∧ ∀ r, Comes (step_sum_Of s) (.L2 0 g (Arr.rep 32 0)) r → Comes (step_sum_Of s) (.L1 t h) r
  | 0, t, h, hl => by
    have ht : t = [] := List.length_eq_zero_iff.1 (by omega)
    subst ht
    refine ⟨h, shaFold_end rfl rfl, fun r hr => Comes.next ?_ hr⟩
    simp only [step_sum_Of]
    rfl
  | k + 1, t, h, hl => by
    obtain ⟨h', e1, e2⟩ := step_ok h (t.take 64) (by rw [List.length_take]; omega)
    obtain ⟨g, g1, g2⟩ := Of_L1 s k (t.drop 64) h' (by rw [List.length_drop]; omega)
    refine ⟨g, by rw [g1, e1, ← shaFold_step h.1 (by omega)], fun r hr => Comes.next ?_ (g2 r hr)⟩
    have hne : (t == ([] : List UInt8)) = false := by
      rw [beq_eq_false_iff_ne]; intro e; rw [e] at hl; simp at hl
    have s1 : sub t (0 : Int) (64 : Int) = t.take 64 := sub_pre t 64
    have s2 : sub t (64 : Int) (t.length : Int) = t.drop 64 := sub_suf t 64
    simp only [step_sum_Of]
    rw [hne, Bool.not_false, cond_true, gO_pos (by omega), s1, e2, Option.bind_some, gO_pos (by omega), s2]
theorem SOf_ok (s : List UInt8) (hs : s.length ≤ 1000000) : ∃ r : Arr 32 UInt8, r.1 = shaB s ∧ g_sum_Of s = some r := by
  have hF := fillS_len s
  obtain ⟨g, g1, g2⟩ := Of_L1 s ((fillS s).length / 64) (fillS s) ⟨sha0, rfl⟩ (by omega)
  have hg : g.1.length = 8 := g.2
  let A : Nat → Arr 32 UInt8 := fun n => if hn : n ≤ 32 then ⟨(List.range n).map (outB g.1) ++ List.replicate (32 - n) 0, by simp; omega⟩ else Arr.rep 32 0
  have hA : ∀ n, n ≤ 32 → (A n).1 = (List.range n).map (outB g.1) ++ List.replicate (32 - n) 0 := by
    intro n hn
    show (if hn : n ≤ 32 then (⟨(List.range n).map (outB g.1) ++ List.replicate (32 - n) 0, by simp; omega⟩ : Arr 32 UInt8) else Arr.rep 32 0).1 = _
    rw [dif_pos hn]
  have h0 : A 0 = Arr.rep 32 0 := Subtype.ext (hA 0 (by omega))
  refine ⟨A 32, ?_, theC_eq (Comes.next (c' := .L1 (fillS s) ⟨sha0, rfl⟩) ?_ (g2 _ ?_))⟩
  · rw [hA 32 (Nat.le_refl _), Nat.sub_self, List.replicate_zero, List.append_nil, g1]; rfl
  · simp only [step_sum_Of]
    rw [filled_ok s hs]; rfl
  · have := Comes.upto (step := step_sum_Of s) (fun i => .L2 (i : Int) g (A i)) 32 (r := A 32) (by
      intro i hi
      have q1 : (i : Int).tdiv 4 = ((i / 4 : Nat) : Int) := by rw [Int.tdiv_eq_ediv_of_nonneg (by omega)]; omega
      have q2 : (i : Int).tmod 4 = ((i % 4 : Nat) : Int) := by rw [Int.tmod_eq_emod_of_nonneg (by omega)]; omega
      have hv : u8I (((wshr (idx g.1 ((i / 4 : Nat) : Int)) (24 - 8 * ((i % 4 : Nat) : Int))).toNat : Nat) : Int) = outB g.1 i := by
        rw [u8I_nat, idx_nat]
        unfold wshr outB
        rw [show min ((24 : Int) - 8 * ((i % 4 : Nat) : Int)).toNat 32 = 24 - 8 * (i % 4) by omega]
        rfl
      have hn : (A i).put (i : Int) (outB g.1 i) = A (i + 1) := by
        apply Subtype.ext
        show (A i).1.set (i : Int).toNat _ = _
        rw [Int.toNat_natCast, hA i (by omega), hA (i + 1) (by omega), fill_set _ _ _ hi]
      simp only [step_sum_Of]
      rw [decide_eq_true (by omega), cond_true, q1, q2, gO_pos ⟨by decide, by unfold inI; omega⟩, gO_pos (by omega), gO_pos (by unfold inI; omega), gO_pos (by unfold inI; omega), gO_pos (by omega), gO_pos (by omega), gO_pos (by unfold inI; omega), hv, hn]
      rfl) (by
      refine Comes.stop ?_
      simp only [step_sum_Of]
      rw [decide_eq_false (by omega)]; rfl)
    rw [h0] at this
    exact this
end Go.Proofs.Ythpgedneniekmaa.K
