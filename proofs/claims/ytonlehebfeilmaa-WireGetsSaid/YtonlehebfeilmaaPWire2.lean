/- Package wire: what is laid, and that it is read again. -/
import Derived.Test.YtonlehebfeilmaaPWire
namespace Go.Proofs.Ytonlehebfeilmaa.K
open Go Go.RowKit
set_option linter.unusedSimpArgs false
set_option linter.unusedVariables false

theorem number_L1 (n0 : Int) : ∀ (k n : Nat) (b : List UInt8), n < 256 ^ k → b.length + k ≤ 1000 → Comes (step_wire_number n0) (.L1 (n : Int) b) (bigN n ++ b) := by
  have stop : ∀ b : List UInt8, Comes (step_wire_number n0) (.L1 ((0 : Nat) : Int) b) (bigN 0 ++ b) := by
    intro b
    refine Comes.stop ?_
    simp only [step_wire_number]
    rw [decide_eq_false (by omega), cond_false, bigN_zero]; rfl
  intro k
  induction k with
  | zero => intro n b hn hb; have : n = 0 := by simpa using hn
            subst this; exact stop b
  | succ k ih =>
    intro n b hn hb
    by_cases h0 : n = 0
    · subst h0; exact stop b
    · have hk : n / 256 < 256 ^ k := by rw [Nat.pow_succ] at hn; omega
      have := ih (n / 256) ([u8I (n : Int)] ++ b) hk (by simp; omega)
      rw [bigN_pos h0, List.append_assoc, ← u8I_nat]
      refine Comes.next ?_ this
      simp only [step_wire_number]
      rw [decide_eq_true (by omega), cond_true, gO_pos (by simp; omega), shrI8]
theorem number_ok {e : Int} (h0 : 0 ≤ e) (h1 : e ≤ 1048576) : g_wire_number e = some (bigN e.toNat) := by
  obtain ⟨n, rfl⟩ : ∃ n : Nat, e = (n : Int) := ⟨e.toNat, by omega⟩
  rw [Int.toNat_natCast]
  refine theC_eq ?_
  have := number_L1 (n : Int) 3 n [] (by have : (256 : Nat) ^ 3 = 16777216 := by decide
                                         omega) (by simp)
  rw [List.append_nil] at this
  exact Comes.next rfl this
theorem rnumber_rec : ∀ (m k n : Nat), k < m → n < 256 ^ k → n < 2 ^ 62 → rec_ref15_number m (n : Int) = some (bigN n) := by
  intro m
  induction m with
  | zero => intro k n h; omega
  | succ m ih =>
    intro k n hk hn h62
    show gs_ref15_number (rec_ref15_number m) (n : Int) = _
    unfold gs_ref15_number
    by_cases h0 : n = 0
    · subst h0
      rw [bigN_zero]; rfl
    · obtain ⟨j, rfl⟩ : ∃ j, k = j + 1 := by
        cases k with
        | zero => have : n = 0 := by simpa using hn
                  exact absurd this h0
        | succ j => exact ⟨j, rfl⟩
      have hj : n / 256 < 256 ^ j := by rw [Nat.pow_succ] at hn; omega
      have e : (n : Int).tdiv 256 = ((n / 256 : Nat) : Int) := by rw [Int.tdiv_eq_ediv_of_nonneg (by omega)]; omega
      have e2 : (n : Int).tmod 256 = ((n % 256 : Nat) : Int) := by rw [Int.tmod_eq_emod_of_nonneg (by omega)]; omega
      have hl2 : (bigN (n / 256)).length ≤ 8 := bigN_len 8 _ (by have : (256 : Nat) ^ 8 = 2 ^ 64 := by decide
                                                                 omega)
      rw [decide_eq_false (by omega), cond_false, e, e2, gO_pos ⟨by decide, by unfold inI; omega⟩, ih j _ (by omega) hj (by omega), Option.bind_some, gO_pos (by simp; omega), u8I_nat, Nat.mod_mod, bigN_pos h0]
theorem rnumber_ok {e : Int} (h0 : 0 ≤ e) (h1 : e ≤ 1048576) : g_ref15_number e = some (bigN e.toNat) := by
  obtain ⟨n, rfl⟩ : ∃ n : Nat, e = (n : Int) := ⟨e.toNat, by omega⟩
  rw [Int.toNat_natCast]
  exact theR_eq 4 fun m hm => rnumber_rec m 3 n (by omega) (by have : (256 : Nat) ^ 3 = 16777216 := by decide
                                                               omega) (by omega)

/-! ### A witness's item -/
def tI (s : List UInt8) : Item := ⟨false, s, []⟩
def lI (l : List Item) : Item := ⟨true, [], l⟩
def linkI (l : Link) : Item := lI [tI (bigN l.fEpoch.toNat), lI (l.fProof.map tI)]
def witI (w : Witness) : Item := lI [tI w.fKey.1, lI (w.fLinks.map linkI)]
theorem List2 (a b : Item) : g_rlp_List [a, b] = some (lI [a, b]) := by
  unfold g_rlp_List
  rw [gO_pos (by simp)]; rfl
theorem take_snoc {α β : Type} (f : α → β) {l : List α} {i : Nat} (h : i < l.length) : (l.take i).map f ++ [f l[i]] = (l.take (i + 1)).map f := by
  rw [List.take_succ_eq_append_getElem h, List.map_append]; rfl

def putR (p : List UInt8 × Int) : List UInt8 × Int := bif (!decide (p.2 = 0)) || decide ((4194304 : Int) < (p.1.length : Int)) then ([], 4) else (p.1, 0)

theorem Put_L2 (w : Witness) (i : Nat) (l : Link) (hl : lnkB l = true) (acc : List Item) (ha : acc.length ≤ 64) (hi : i ≤ 64) (r : List UInt8 × Int) (hn : Comes (step_wire_Put w) (.L1 ((i + 1 : Nat) : Int) (acc ++ [linkI l])) r) (k : Nat) : ∀ j, k + j = l.fProof.length →
    Comes (step_wire_Put w) (.L2 (i : Int) l.fProof (l.fProof.length : Int) (j : Int) acc l.fEpoch l.fProof ((l.fProof.take j).map tI)) r := by
  have hr := lnk_range hl
  induction k with
  | zero =>
    intro j hj
    refine Comes.next ?_ hn
    simp only [step_wire_Put]
    rw [decide_eq_false (by omega), cond_false, number_ok hr.1 hr.2.1, Option.bind_some]
    simp only [g_rlp_Text, Option.bind_some, List2]
    rw [gO_pos (by simp; omega), gO_pos (by unfold inI; omega), List.take_of_length_le (by omega)]
    rfl
  | succ k ih =>
    intro j hj
    have h1 : j < l.fProof.length := by omega
    refine Comes.next (c' := .L2 (i : Int) l.fProof (l.fProof.length : Int) ((j + 1 : Nat) : Int) acc l.fEpoch l.fProof ((l.fProof.take (j + 1)).map tI)) ?_ (ih (j + 1) (by omega))
    simp only [step_wire_Put]
    rw [decide_eq_true (by omega), cond_true, gO_pos (by omega), idx_nat h1]
    simp only [g_rlp_Text, Option.bind_some]
    rw [gO_pos (by simp; omega), gO_pos (by unfold inI; omega), ← take_snoc tI h1]
    rfl
theorem Put_L1 (w : Witness) (hM : MayP w) (p : List UInt8 × Int) (hp : g_rlp_Put (witI w) = some p) (k : Nat) : ∀ i, k + i = w.fLinks.length →
    Comes (step_wire_Put w) (.L1 (i : Int) ((w.fLinks.take i).map linkI)) (putR p) := by
  obtain ⟨m1, m2, m3⟩ := hM
  induction k with
  | zero =>
    intro i hi
    refine Comes.stop ?_
    simp only [step_wire_Put]
    rw [decide_eq_false (by omega), cond_false, List.take_of_length_le (by omega)]
    simp only [g_rlp_Text, Option.bind_some, List2]
    rw [show lI [⟨false, w.fKey.1, []⟩, ⟨true, [], w.fLinks.map linkI⟩] = witI w from rfl, hp, Option.bind_some]
    unfold putR
    cases ((!decide (p.2 = 0)) || decide ((4194304 : Int) < (p.1.length : Int))) <;> rfl
  | succ k ih =>
    intro i hi
    have h1 : i < w.fLinks.length := by omega
    have hm := m3 i h1
    rw [idx_nat h1] at hm
    have := Put_L2 w i w.fLinks[i] hm.1 ((w.fLinks.take i).map linkI) (by simp; omega) (by omega) (putR p) (by rw [take_snoc linkI h1]; exact ih (i + 1) (by omega)) _ 0 rfl
    refine Comes.next ?_ this
    simp only [step_wire_Put]
    rw [decide_eq_true (by omega), cond_true, gO_pos (by omega), idx_nat h1]
    simp only [g_rlp_List0, Option.bind_some]
    rfl
theorem WPut_ok (w : Witness) (hM : MayP w) (p : List UInt8 × Int) (hp : g_rlp_Put (witI w) = some p) : g_wire_Put w = some (putR p) := by
  refine theC_eq (Comes.next (c' := .L1 ((0 : Nat) : Int) []) ?_ (Put_L1 w hM p hp _ 0 rfl))
  simp only [step_wire_Put]
  rw [Check_ok, mb_true hM]
  simp only [if_true, Option.bind_some, decide_true, Bool.not_true, cond_false, g_rlp_List0]
  rfl
theorem WPut_no (w : Witness) (hM : ¬ MayP w) : g_wire_Put w = some ([], 2) := by
  refine theC_eq (Comes.stop ?_)
  simp only [step_wire_Put]
  rw [Check_ok, mb_false hM]
  rfl

/-! ### The reference's item, and its bytes -/
theorem RItem_L3 (w : Witness) (l : List Item) (k : Nat) : ∀ i, k + i = 32 → Comes (step_ref15_Item w) (.L3 (w.fKey.1.take i) (i : Int) l) (lI [tI w.fKey.1, lI l]) := by
  have h32 := w.fKey.2
  induction k with
  | zero =>
    intro i hi
    refine Comes.stop ?_
    simp only [step_ref15_Item]
    rw [decide_eq_false (by omega), cond_false, List.take_of_length_le (by omega)]
    rfl
  | succ k ih =>
    intro i hi
    have h1 : i < w.fKey.1.length := by omega
    refine Comes.next (c' := .L3 (w.fKey.1.take (i + 1)) ((i + 1 : Nat) : Int) l) ?_ (ih (i + 1) (by omega))
    simp only [step_ref15_Item]
    rw [decide_eq_true (by omega), cond_true, gO_pos (by omega), gO_pos (by simp; omega), gO_pos (by unfold inI; omega), idx_nat h1, List.take_succ_eq_append_getElem h1]
    rfl
theorem RItem_L2 (w : Witness) (i : Nat) (hi : i < w.fLinks.length) (h64 : w.fLinks.length ≤ 64) (hl : lnkB w.fLinks[i] = true) (acc : List Item) (ha : acc.length ≤ 64) (r : Item) (hn : Comes (step_ref15_Item w) (.L1 ((i + 1 : Nat) : Int) (acc ++ [linkI w.fLinks[i]])) r) (k : Nat) : ∀ j, k + j = w.fLinks[i].fProof.length →
    Comes (step_ref15_Item w) (.L2 (i : Int) (j : Int) acc ((w.fLinks[i].fProof.take j).map tI)) r := by
  have hr := lnk_range hl
  induction k with
  | zero =>
    intro j hj
    refine Comes.next ?_ hn
    simp only [step_ref15_Item]
    rw [gO_pos (by omega), idx_nat hi, decide_eq_false (by omega), cond_false, gO_pos (by omega), rnumber_ok hr.1 hr.2.1, Option.bind_some, gO_pos (by simp; omega), gO_pos (by unfold inI; omega), List.take_of_length_le (by omega)]
    rfl
  | succ k ih =>
    intro j hj
    have h1 : j < w.fLinks[i].fProof.length := by omega
    refine Comes.next (c' := .L2 (i : Int) ((j + 1 : Nat) : Int) acc ((w.fLinks[i].fProof.take (j + 1)).map tI)) ?_ (ih (j + 1) (by omega))
    simp only [step_ref15_Item]
    rw [gO_pos (by omega), idx_nat hi, decide_eq_true (by omega), cond_true, gO_pos (by omega), gO_pos (by omega), idx_nat h1, gO_pos (by simp; omega), gO_pos (by unfold inI; omega), ← take_snoc tI h1]
    rfl
theorem RItem_L1 (w : Witness) (hM : MayP w) (k : Nat) : ∀ i, k + i = w.fLinks.length → Comes (step_ref15_Item w) (.L1 (i : Int) ((w.fLinks.take i).map linkI)) (witI w) := by
  obtain ⟨m1, m2, m3⟩ := hM
  induction k with
  | zero =>
    intro i hi
    refine Comes.next (c' := .L3 (w.fKey.1.take 0) ((0 : Nat) : Int) (w.fLinks.map linkI)) ?_ (RItem_L3 w _ 32 0 rfl)
    simp only [step_ref15_Item]
    rw [decide_eq_false (by omega), cond_false, List.take_of_length_le (by omega)]
    rfl
  | succ k ih =>
    intro i hi
    have h1 : i < w.fLinks.length := by omega
    have hm := m3 i h1
    rw [idx_nat h1] at hm
    have := RItem_L2 w i h1 m2 hm.1 ((w.fLinks.take i).map linkI) (by simp; omega) _ (by rw [take_snoc linkI h1]; exact ih (i + 1) (by omega)) _ 0 rfl
    refine Comes.next ?_ this
    simp only [step_ref15_Item]
    rw [decide_eq_true (by omega), cond_true]
    rfl
theorem RItem_ok (w : Witness) (hM : MayP w) : g_ref15_Item w = some (witI w) := theC_eq (Comes.next rfl (RItem_L1 w hM _ 0 rfl))

theorem RPut_L1 (f : Item → Option (List UInt8)) (x : Item) (hf : ∀ y ∈ x.fL, (ienc y).length ≤ 2 ^ 32 → f y = some (ienc y)) (hl : x.fL.length ≤ 9223372036854775807) (k : Nat) : ∀ (i : Nat) (acc : List UInt8), k + i = x.fL.length → (acc ++ iencs (x.fL.drop i)).length ≤ 2 ^ 32 →
    Comes (step_ref05_Put f x) (.L1 acc (i : Int)) (hd true (acc ++ iencs (x.fL.drop i)).length ++ (acc ++ iencs (x.fL.drop i))) := by
  induction k with
  | zero =>
    intro i acc hi hlen
    refine Comes.stop ?_
    rw [List.drop_eq_nil_of_le (by omega)] at hlen ⊢
    simp only [iencs, List.append_nil] at hlen ⊢
    have := hd_le true hlen
    simp only [step_ref05_Put]
    rw [decide_eq_false (by omega), cond_false, RHead_ok _ _ (by omega), Option.bind_some, gO_pos (by omega)]
  | succ k ih =>
    intro i acc hi hlen
    have h1 : i < x.fL.length := by omega
    rw [List.drop_eq_getElem_cons h1] at hlen ⊢
    simp only [iencs] at hlen ⊢
    simp only [List.length_append] at hlen
    have e := hf x.fL[i] (List.getElem_mem h1) (by omega)
    have := ih (i + 1) (acc ++ ienc x.fL[i]) (by omega) (by simp only [List.length_append]; omega)
    rw [List.append_assoc] at this
    refine Comes.next ?_ this
    simp only [step_ref05_Put]
    rw [decide_eq_true (by omega), cond_true, gO_pos (by omega), idx_nat h1, e, Option.bind_some, gO_pos (by omega), gO_pos (by unfold inI; omega)]
    rfl
theorem RPut_rec : ∀ (n m : Nat) (x : Item), OKn n x → n ≤ m → (ienc x).length ≤ 2 ^ 32 → rec_ref05_Put m x = some (ienc x)
  | 0, _, _, h, _, _ => h.elim
  | n + 1, 0, _, _, hm, _ => by omega
  | n + 1, m + 1, x, hok, hm, hlen => by
    show theC (step_ref05_Put (rec_ref05_Put m) x) .S = _
    refine theC_eq ?_
    cases hl : x.fList with
    | false =>
      rw [ienc_eq, if_pos hl] at hlen ⊢
      refine Comes.stop ?_
      simp only [step_ref05_Put, hl, Bool.not_false, cond_true]
      rw [gO_pos (by intro h; have := of_decide_eq_true h; omega)]
      by_cases h2 : x.fS.length = 1
      · by_cases h3 : (x.fS.getD 0 0).toNat < 128
        · rw [if_pos ⟨h2, h3⟩, decide_eq_true (by omega), get0 (by omega), decide_eq_true (by omega)]; rfl
        · rw [if_neg (fun h => h3 h.2)] at hlen ⊢
          rw [List.length_append] at hlen
          rw [decide_eq_true (by omega), get0 (by omega), decide_eq_false (by omega), Bool.and_false, cond_false, RHead_ok _ _ (by omega), Option.bind_some, gO_pos (by omega)]
      · rw [if_neg (fun h => h2 h.1)] at hlen ⊢
        rw [List.length_append] at hlen
        rw [decide_eq_false (by omega), Bool.false_and, cond_false, RHead_ok _ _ (by omega), Option.bind_some, gO_pos (by omega)]
    | true =>
      rw [ienc_eq, if_neg (by rw [hl]; simp)] at hlen ⊢
      rw [List.length_append] at hlen
      have key := RPut_L1 (rec_ref05_Put m) x (fun y hy hl => RPut_rec n m y (hok.2.2 y hy) (by omega) hl) hok.1 x.fL.length 0 [] rfl (by simp only [List.nil_append, List.drop_zero]; omega)
      rw [List.drop_zero, List.nil_append] at key
      refine Comes.next ?_ key
      simp only [step_ref05_Put, hl, Bool.not_true, cond_false]
      rfl
theorem RPut_ok {n : Nat} (x : Item) (hok : OKn n x) (hlen : (ienc x).length ≤ 2 ^ 32) : g_ref05_Put x = some (ienc x) := theR_eq n fun m hm => RPut_rec n m x hok hm hlen

/-! ### What is read -/
theorem read_L2 (x : Item) (e : Int) (ts : List (List UInt8)) (hx : x.fL.length = 2) (hts : (idx x.fL 1).fL = ts.map tI) (h70 : ts.length ≤ 5000) (k : Nat) : ∀ j, k + j = ts.length →
    Comes (step_wire_read x) (.L2 (j : Int) e (ts.take j)) ⟨e, ts⟩ := by
  have hlen : ((idx x.fL 1).fL).length = ts.length := by rw [hts, List.length_map]
  induction k with
  | zero =>
    intro j hj
    refine Comes.stop ?_
    simp only [step_wire_read]
    rw [decide_eq_false (by omega), cond_false, List.take_of_length_le (by omega)]
  | succ k ih =>
    intro j hj
    have h1 : j < ts.length := by omega
    refine Comes.next (c' := .L2 ((j + 1 : Nat) : Int) e (ts.take (j + 1))) ?_ (ih (j + 1) (by omega))
    have hg : (idx ((idx x.fL 1).fL) (j : Int)).fS = ts[j] := by
      rw [idx_nat (by omega)]
      simp only [hts, List.getElem_map, tI]
    simp only [step_wire_read]
    rw [decide_eq_true (by omega), cond_true, gO_pos (by omega), gO_pos (by simp; omega), gO_pos (by unfold inI; omega), hg, List.take_succ_eq_append_getElem h1]
    rfl
theorem read_L1 (x : Item) (s : List UInt8) (r : Link) (hx : x.fL.length = 2) (hs : (idx x.fL 0).fS = s) (h4 : s.length ≤ 4) (hn : Comes (step_wire_read x) (.L2 0 ((valN s : Nat) : Int) []) r) (k : Nat) : ∀ i, k + i = s.length →
    Comes (step_wire_read x) (.L1 (i : Int) ((valN (s.take i) : Nat) : Int)) r := by
  have hmin : minI ((((idx x.fL 0).fS).length : Nat) : Int) 4 = (s.length : Int) := by rw [hs]; unfold minI; split <;> omega
  induction k with
  | zero =>
    intro i hi
    refine Comes.next ?_ hn
    simp only [step_wire_read]
    rw [hmin, decide_eq_false (by omega), cond_false, gO_pos (by omega), List.take_of_length_le (by omega)]
  | succ k ih =>
    intro i hi
    have h1 : i < s.length := by omega
    have hb : (s[i]).toNat < 256 := UInt8.toNat_lt _
    have hv : ∀ l : List UInt8, valN l < 256 ^ l.length := by
      intro l
      suffices h : ∀ (l : List UInt8) (z k : Nat), z < 256 ^ k → l.foldl (fun a b => a * 256 + b.toNat) z < 256 ^ (k + l.length) by
        have := h l 0 0 (by decide)
        rwa [Nat.zero_add] at this
      intro l
      induction l with
      | nil => intro z k hz; simpa using hz
      | cons b r ih =>
        intro z k hz
        have hb : b.toNat < 256 := UInt8.toNat_lt _
        have := ih (z * 256 + b.toNat) (k + 1) (by rw [Nat.pow_succ]; omega)
        rw [List.foldl_cons, List.length_cons, show k + (r.length + 1) = k + 1 + r.length by omega]
        exact this
    have hvi := hv (s.take i)
    have : (256 : Nat) ^ (s.take i).length ≤ 256 ^ 4 := Nat.pow_le_pow_right (by decide) (by simp; omega)
    have h44 : (256 : Nat) ^ 4 = 4294967296 := by decide
    refine Comes.next (c' := .L1 ((i + 1 : Nat) : Int) ((valN (s.take (i + 1)) : Nat) : Int)) ?_ (ih (i + 1) (by omega))
    have hsh : shlI ((valN (s.take i) : Nat) : Int) 8 = ((valN (s.take i) * 256 : Nat) : Int) := by
      unfold shlI
      rw [show min (8 : Int).toNat 64 = 8 by decide]; omega
    simp only [step_wire_read]
    rw [hmin, decide_eq_true (by omega), cond_true, gO_pos (by rw [hsh]; unfold inI; omega), gO_pos (by omega), gO_pos (by rw [hs]; omega), gO_pos (by unfold inI; omega), hs, idx_nat h1, orI_byte _ _ (by omega) hb, List.take_succ_eq_append_getElem h1, valN_snoc]
    rfl
theorem read_ok (l : Link) (hl : lnkB l = true) : g_wire_read (linkI l) = some l := by
  have hr := lnk_range hl
  have h3 : (bigN l.fEpoch.toNat).length ≤ 3 := bigN_len 3 _ (by rw [show (256 : Nat) ^ 3 = 16777216 from by decide]; omega)
  refine theC_eq (Comes.next (c' := .L1 ((0 : Nat) : Int) ((valN ((bigN l.fEpoch.toNat).take 0) : Nat) : Int)) ?_ (read_L1 (linkI l) (bigN l.fEpoch.toNat) l rfl rfl (by omega) ?_ _ 0 rfl))
  · rfl
  · have := read_L2 (linkI l) l.fEpoch l.fProof rfl rfl (by omega) l.fProof.length 0 rfl
    rw [valN_big, show ((l.fEpoch.toNat : Nat) : Int) = l.fEpoch by omega]
    exact this

theorem toArr_key (k : Arr 32 UInt8) : toArr 32 k.1 = k := by
  unfold toArr
  rw [dif_pos (by rw [k.2]; exact Nat.le_refl _)]
  exact Subtype.ext (List.take_of_length_le (by rw [k.2]; exact Nat.le_refl _))
theorem Get_L1 (w : Witness) (s : List UInt8) (hM : MayP w) (r : Witness × Int) (hn : g_wire_Put w = some (s, 0)) (k : Nat) : ∀ i, k + i = w.fLinks.length →
    Comes (step_wire_Get s) (.L1 (w.fLinks.map linkI) (((w.fLinks.map linkI).length : Nat) : Int) (i : Int) w.fKey (w.fLinks.take i)) (w, 0) := by
  obtain ⟨m1, m2, m3⟩ := hM
  induction k with
  | zero =>
    intro i hi
    refine Comes.stop ?_
    simp only [step_wire_Get, List.length_map]
    rw [decide_eq_false (by omega), cond_false, List.take_of_length_le (by omega), show (⟨w.fKey, w.fLinks⟩ : Witness) = w from rfl, hn, Option.bind_some]
    simp
  | succ k ih =>
    intro i hi
    have h1 : i < w.fLinks.length := by omega
    have hm := m3 i h1
    rw [idx_nat h1] at hm
    refine Comes.next (c' := .L1 _ _ ((i + 1 : Nat) : Int) w.fKey (w.fLinks.take (i + 1))) ?_ (ih (i + 1) (by omega))
    simp only [step_wire_Get]
    rw [decide_eq_true (by simp; omega), cond_true, gO_pos (by simp; omega), idx_nat (by simpa using h1), List.getElem_map, read_ok _ hm.1, Option.bind_some, gO_pos (by simp; omega), gO_pos (by unfold inI; omega), List.take_succ_eq_append_getElem h1]
    rfl
theorem WGet_ok (w : Witness) (s : List UInt8) (hM : MayP w) (hs : s.length ≤ 4194304) (hW : g_rlp_Whole s = some (witI w, 0)) (hn : g_wire_Put w = some (s, 0)) : g_wire_Get s = some (w, 0) := by
  refine theC_eq (Comes.next (c' := .L1 (w.fLinks.map linkI) (((w.fLinks.map linkI).length : Nat) : Int) ((0 : Nat) : Int) w.fKey (w.fLinks.take 0)) ?_ (Get_L1 w s hM (w, 0) hn _ 0 rfl))
  have h32 := w.fKey.2
  have e0 : (idx (witI w).fL 0).fS = w.fKey.1 := rfl
  have e1 : (idx (witI w).fL 1).fL = w.fLinks.map linkI := rfl
  have e2 : (witI w).fL.length = 2 := rfl
  simp only [step_wire_Get, hW, Option.bind_some, e0, e1, e2]
  rw [decide_eq_false (by omega), cond_false, decide_eq_true (by first | exact True.intro | omega), Bool.not_true, cond_false, gO_pos (fun _ => by omega), decide_eq_true (by omega), decide_eq_true (by omega), Bool.not_true, Bool.or_false, cond_false, gO_pos (by omega), gO_pos (by omega), gO_pos (by omega), gO_pos (by omega), toArr_key]
  rfl
end Go.Proofs.Ytonlehebfeilmaa.K
