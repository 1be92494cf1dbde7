/- Nibbles: plain laws, with no program in sight. -/
import Derived.Test.YtoeppofkmcdknaaCPRlp5
namespace Go.Proofs.Ytoeppofkmcdknaa.K
open Go
theorem drop_getD {l : List UInt8} {i : Nat} (h : i < l.length) : l.drop i = l.getD i 0 :: l.drop (i + 1) := by
  rw [List.drop_eq_getElem_cons h, List.getD_eq_getElem?_getD, List.getElem?_eq_getElem h]
  rfl
def common : List UInt8 → List UInt8 → Nat
  | a :: r, b :: q => if a = b then common r q + 1 else 0
  | _, _ => 0
theorem common_end {a b : List UInt8} {i : Nat} (h : ¬ (i < a.length ∧ i < b.length)) : common (a.drop i) (b.drop i) = 0 := by
  by_cases h1 : i < a.length
  · rw [show b.drop i = [] from List.drop_eq_nil_of_le (by omega)]
    cases a.drop i <;> rfl
  · rw [show a.drop i = [] from List.drop_eq_nil_of_le (by omega)]
    rfl
def right (l : List UInt8) : Bool := !(l.any fun b => decide (15 < b.toNat))
theorem right_cons {x : UInt8} {r : List UInt8} : right (x :: r) = (!(decide (15 < x.toNat)) && right r) := by simp [right]
def pairsL : List UInt8 → List UInt8
  | a :: b :: r => (a * 16 ||| b) :: pairsL r
  | _ => []
theorem pairsL_short {l : List UInt8} (h : l.length < 2) : pairsL l = [] := by
  cases l with
  | nil => rfl
  | cons a r => cases r with
    | nil => rfl
    | cons b q => simp at h; omega
def pathL : List UInt8 → List UInt8
  | [] => []
  | c :: r => c / 16 :: c % 16 :: pathL r
theorem pathL_len : ∀ ks : List UInt8, (pathL ks).length = 2 * ks.length
  | [] => rfl
  | c :: r => by simp only [pathL, List.length_cons, pathL_len r]; omega
def packS (p : List UInt8) (leaf : Bool) : List UInt8 :=
  if p.length % 2 = 1 then pairsL ((if leaf then 3 else 1) :: p) else pairsL ((if leaf then 2 else 0) :: 0 :: p)
def okP (p : List UInt8) : Bool := right p && decide (p.length ≤ 64)
theorem pairsL_len : ∀ l : List UInt8, (pairsL l).length = l.length / 2
  | [] => rfl
  | [_] => by simp [pairsL]
  | a :: b :: r => by simp only [pairsL, List.length_cons, pairsL_len r]; omega
theorem okP_yes {p : List UInt8} (h : right p = true) (h2 : p.length ≤ 64) : okP p = true := by simp [okP, h, h2]
theorem right_lt {p : List UInt8} (h : right p = true) (i : Nat) : (p.getD i 0).toNat < 16 := by
  by_cases hi : i < p.length
  · rw [List.getD_eq_getElem?_getD, List.getElem?_eq_getElem hi]
    simp only [right, Bool.not_eq_true', List.any_eq_false, decide_eq_true_eq] at h
    have := h p[i] (List.getElem_mem hi)
    simp only [Option.getD_some]
    omega
  · rw [List.getD_eq_getElem?_getD, List.getElem?_eq_none (by omega)]
    decide
theorem or_add {a b : UInt8} (h : b.toNat < 16) : 16 * a + b = a * 16 ||| b := by
  apply UInt8.toNat_inj.1
  rw [UInt8.toNat_or, UInt8.toNat_add, UInt8.toNat_mul, UInt8.toNat_mul]
  have e : (16 : UInt8).toNat = 16 := rfl
  rw [e]
  have h1 : a.toNat < 256 := a.toNat_lt
  have h2 : a.toNat * 16 % 2 ^ 8 = 2 ^ 4 * (a.toNat % 16) := by omega
  rw [h2, ← Nat.two_pow_add_eq_or_of_lt (show b.toNat < 2 ^ 4 by omega)]
  omega
theorem packS_even_true {p : List UInt8} (h : p.length % 2 = 0) : packS p true = [32] ++ pairsL (p.drop 0) := by
  rw [packS, if_neg (by omega)]; rfl
theorem packS_even_false {p : List UInt8} (h : p.length % 2 = 0) : packS p false = [0] ++ pairsL (p.drop 0) := by
  rw [packS, if_neg (by omega)]; rfl
theorem ofNat_add {b : UInt8} {n : Nat} (h : b.toNat < 16) (hn : n < 200) : UInt8.ofNat ((n : Int) + (b.toNat : Int)).toNat = UInt8.ofNat n + b := by
  apply UInt8.toNat_inj.1
  rw [UInt8.toNat_add, UInt8.toNat_ofNat', UInt8.toNat_ofNat']
  omega
theorem pairsL_drop {p : List UInt8} (m : UInt8) (h : p.length % 2 = 1) (h2 : (p.getD 0 0).toNat < 16) : pairsL (m :: p) = (16 * m + p.getD 0 0) :: pairsL (p.drop 1) := by
  have e : p = p.getD 0 0 :: p.drop 1 := by have := drop_getD (l := p) (i := 0) (by omega); simpa using this
  rw [or_add h2]
  conv => lhs; rw [e]
  rfl
theorem packS_odd_true {p : List UInt8} (h : p.length % 2 = 1) (h2 : (p.getD 0 0).toNat < 16) : packS p true = [UInt8.ofNat (48 + ((p.getD 0 0).toNat : Int)).toNat] ++ pairsL (p.drop 1) := by
  rw [packS, if_pos h]
  have e := ofNat_add (n := 48) h2 (by omega)
  simp only [if_true]
  rw [pairsL_drop 3 h h2]
  exact congrArg (· :: pairsL (p.drop 1)) e.symm
theorem packS_odd_false {p : List UInt8} (h : p.length % 2 = 1) (h2 : (p.getD 0 0).toNat < 16) : packS p false = [UInt8.ofNat (16 + ((p.getD 0 0).toNat : Int)).toNat] ++ pairsL (p.drop 1) := by
  rw [packS, if_pos h]
  have e := ofNat_add (n := 16) h2 (by omega)
  simp only [if_false, Bool.false_eq_true]
  rw [pairsL_drop 1 h h2]
  exact congrArg (· :: pairsL (p.drop 1)) e.symm
def unpBad (c : UInt8) (n : Nat) : Bool := decide (3 < c.toNat / 16) || (decide (c.toNat / 16 % 2 = 0) && decide (c.toNat % 16 ≠ 0)) || decide (64 + (2 - c.toNat / 16 % 2) < 2 * n)
def unpE : List UInt8 → Int
  | [] => 5
  | c :: r => if unpBad c (r.length + 1) then 6 else 0
def unpP : List UInt8 → List UInt8
  | [] => []
  | c :: r => if unpBad c (r.length + 1) then [] else (pathL (c :: r)).drop (2 - c.toNat / 16 % 2)
def unpL : List UInt8 → Bool
  | [] => false
  | c :: r => if unpBad c (r.length + 1) then false else decide (2 ≤ c.toNat / 16)
theorem pathL_append : ∀ (a b : List UInt8), pathL (a ++ b) = pathL a ++ pathL b
  | [], b => rfl
  | x :: r, b => by simp only [List.cons_append, pathL, pathL_append r b]
theorem pathL_take {l : List UInt8} {i : Nat} (h : i < l.length) : pathL (l.take (i + 1)) = pathL (l.take i) ++ [l.getD i 0 / 16, l.getD i 0 % 16] := by
  rw [List.take_add_one, pathL_append, List.getD_eq_getElem?_getD, List.getElem?_eq_getElem h]
  rfl
theorem unp_head {c : UInt8} {r o : List UInt8} {i : Nat} (f : o = pathL ((c :: r).take i)) (hi : 0 < i) : o.getD 0 0 = c / 16 ∧ o.getD 1 0 = c % 16 := by
  obtain ⟨j, rfl⟩ : ∃ j, i = j + 1 := ⟨i - 1, by omega⟩
  subst f
  exact ⟨rfl, rfl⟩
theorem div16_nat (c : UInt8) : (c / 16).toNat = c.toNat / 16 := by rw [UInt8.toNat_div]; rfl
theorem mod16_nat (c : UInt8) : (c % 16).toNat = c.toNat % 16 := by rw [UInt8.toNat_mod]; rfl
theorem unpBad_iff (c : UInt8) (n : Nat) : unpBad c n = true ↔ (3 < c.toNat / 16 ∨ (c.toNat / 16 % 2 = 0 ∧ c.toNat % 16 ≠ 0) ∨ 64 + (2 - c.toNat / 16 % 2) < 2 * n) := by
  simp [unpBad, or_assoc]
theorem okP_ok {p : List UInt8} (h : okP p = true) : right p = true ∧ p.length ≤ 64 := by simpa [okP] using h
theorem packS_len (p : List UInt8) (leaf : Bool) : (packS p leaf).length = p.length / 2 + 1 := by
  unfold packS
  split
  · rw [pairsL_len, List.length_cons]; omega
  · rw [pairsL_len, List.length_cons, List.length_cons]; omega
theorem byte_parts {a b : UInt8} (ha : a.toNat < 16) (hb : b.toNat < 16) : (a * 16 ||| b) / 16 = a ∧ (a * 16 ||| b) % 16 = b := by
  rw [← or_add hb]
  have e : (16 * a + b).toNat = 16 * a.toNat + b.toNat := by
    rw [UInt8.toNat_add, UInt8.toNat_mul]
    show (16 * a.toNat % 256 + b.toNat) % 256 = _
    omega
  constructor
  · apply UInt8.toNat_inj.1
    rw [div16_nat, e]; omega
  · apply UInt8.toNat_inj.1
    rw [mod16_nat, e]; omega
theorem byte_join (c : UInt8) : (c / 16 * 16 ||| c % 16) = c := by
  have h : (c % 16).toNat < 16 := by rw [mod16_nat]; omega
  rw [← or_add h]
  apply UInt8.toNat_inj.1
  rw [UInt8.toNat_add, UInt8.toNat_mul, div16_nat, mod16_nat]
  have := c.toNat_lt
  show (16 * (c.toNat / 16) % 256 + c.toNat % 16) % 256 = _
  omega
theorem right_tail {x : UInt8} {r : List UInt8} (h : right (x :: r) = true) : x.toNat < 16 ∧ right r = true := by
  rw [right_cons] at h
  simp at h
  exact ⟨by omega, h.2⟩
theorem pathL_pairs : ∀ (q : List UInt8), q.length % 2 = 0 → right q = true → pathL (pairsL q) = q
  | [], _, _ => rfl
  | [_], h, _ => by simp at h
  | a :: b :: r, h, hr => by
    obtain ⟨h1, h2⟩ := right_tail hr
    obtain ⟨h3, h4⟩ := right_tail h2
    obtain ⟨e1, e2⟩ := byte_parts h1 h3
    rw [pairsL, pathL, e1, e2, pathL_pairs r (by simp at h; omega) h4]
theorem pairs_pathL : ∀ (k : List UInt8), pairsL (pathL k) = k
  | [] => rfl
  | c :: r => by rw [pathL, pairsL, byte_join, pairs_pathL r]
theorem right_pathL : ∀ (k : List UInt8), right (pathL k) = true
  | [] => rfl
  | c :: r => by
    have h1 : (c / 16).toNat < 16 := by rw [div16_nat]; have := c.toNat_lt; omega
    have h2 : (c % 16).toNat < 16 := by rw [mod16_nat]; omega
    rw [pathL, right_cons, right_cons, right_pathL r, decide_eq_false (by omega), decide_eq_false (by omega)]
    rfl
theorem unp_one (m x : UInt8) (q : List UInt8) (hm : m.toNat < 4) (ho : m.toNat % 2 = 1) (hx : x.toNat < 16) (hq : right q = true) (he : q.length % 2 = 0) (hl : q.length < 64) :
    unpP ((m * 16 ||| x) :: pairsL q) = x :: q ∧ unpL ((m * 16 ||| x) :: pairsL q) = decide (2 ≤ m.toNat) ∧ unpE ((m * 16 ||| x) :: pairsL q) = 0 := by
  obtain ⟨e1, e2⟩ := byte_parts (show m.toNat < 16 by omega) hx
  have e3 := congrArg UInt8.toNat e1
  have e4 := congrArg UInt8.toNat e2
  rw [div16_nat] at e3
  rw [mod16_nat] at e4
  have hb : unpBad (m * 16 ||| x) ((pairsL q).length + 1) = false := by
    rw [Bool.eq_false_iff, ne_eq, unpBad_iff, e3, e4, pairsL_len]
    omega
  simp only [unpP, unpL, unpE, hb, Bool.false_eq_true, if_false, e3, ho, pathL, e1, e2, pathL_pairs q he hq, List.drop_succ_cons, List.drop_zero, and_true]
theorem unp_two (m : UInt8) (q : List UInt8) (hm : m.toNat < 4) (ho : m.toNat % 2 = 0) (hq : right q = true) (he : q.length % 2 = 0) (hl : q.length ≤ 64) :
    unpP ((m * 16 ||| 0) :: pairsL q) = q ∧ unpL ((m * 16 ||| 0) :: pairsL q) = decide (2 ≤ m.toNat) ∧ unpE ((m * 16 ||| 0) :: pairsL q) = 0 := by
  obtain ⟨e1, e2⟩ := byte_parts (show m.toNat < 16 by omega) (show (0 : UInt8).toNat < 16 by decide)
  have e3 := congrArg UInt8.toNat e1
  have e4 := congrArg UInt8.toNat e2
  rw [div16_nat] at e3
  rw [mod16_nat] at e4
  have e5 : (0 : UInt8).toNat = 0 := rfl
  have hb : unpBad (m * 16 ||| 0) ((pairsL q).length + 1) = false := by
    rw [Bool.eq_false_iff, ne_eq, unpBad_iff, e3, e4, pairsL_len, e5]
    omega
  simp only [unpP, unpL, unpE, hb, Bool.false_eq_true, if_false, e3, ho, pathL, e1, e2, pathL_pairs q he hq, Nat.sub_zero, List.drop_succ_cons, List.drop_zero, and_true]
theorem unp_pack {p : List UInt8} (h : okP p = true) (leaf : Bool) : unpP (packS p leaf) = p ∧ unpL (packS p leaf) = leaf ∧ unpE (packS p leaf) = 0 := by
  obtain ⟨h1, h2⟩ := okP_ok h
  unfold packS
  split
  · rename_i ho
    cases p with
    | nil => simp at ho
    | cons x q =>
      obtain ⟨h3, h4⟩ := right_tail h1
      simp at ho h2
      cases leaf
      · exact unp_one 1 x q (by decide) (by decide) h3 h4 (by omega) (by omega)
      · exact unp_one 3 x q (by decide) (by decide) h3 h4 (by omega) (by omega)
  · cases leaf
    · exact unp_two 0 p (by decide) (by decide) h1 (by omega) h2
    · exact unp_two 2 p (by decide) (by decide) h1 (by omega) h2
theorem unp_is_bad {c : UInt8} {r : List UInt8} (h : unpBad c (r.length + 1) = true) : unpP (c :: r) = [] ∧ unpL (c :: r) = false ∧ unpE (c :: r) = 6 := by
  simp only [unpP, unpL, unpE, h, if_true, and_true]
theorem right_drop {p : List UInt8} (h : right p = true) (k : Nat) : right (p.drop k) = true := by
  unfold right at h ⊢
  simp only [Bool.not_eq_true', List.any_eq_false] at h ⊢
  exact fun x hx => h x (List.mem_of_mem_drop hx)
theorem unp_is_good {c : UInt8} {r : List UInt8} (h : unpBad c (r.length + 1) = false) : unpE (c :: r) = 0 ∧ right (unpP (c :: r)) = true ∧ (unpP (c :: r)).length ≤ 64 ∧ packS (unpP (c :: r)) (unpL (c :: r)) = c :: r := by
  have hb := h
  rw [Bool.eq_false_iff, ne_eq, unpBad_iff] at hb
  have hm : (c / 16).toNat = c.toNat / 16 := div16_nat c
  have hx : (c % 16).toNat = c.toNat % 16 := mod16_nat c
  have hj := byte_join c
  refine ⟨by simp [unpE, h], ?_, ?_, ?_⟩
  · simp only [unpP, h, Bool.false_eq_true, if_false]
    exact right_drop (right_pathL _) _
  · simp only [unpP, h, Bool.false_eq_true, if_false, List.length_drop, pathL_len, List.length_cons]
    omega
  · simp only [unpP, unpL, h, Bool.false_eq_true, if_false]
    rcases Nat.mod_two_eq_zero_or_one (c.toNat / 16) with h0 | h0
    · have hx0 : c % 16 = 0 := by apply UInt8.toNat_inj.1; rw [hx]; show _ = 0; omega
      rw [h0, show 2 - 0 = 1 + 1 from rfl]
      simp only [pathL, List.drop_succ_cons, List.drop_zero]
      rw [packS, if_neg (by rw [pathL_len]; omega), pairsL, pairs_pathL]
      congr 1
      rw [← hj, hx0]
      congr 2
      apply UInt8.toNat_inj.1
      rw [hm]
      split
      · rename_i hd; simp at hd; show 2 = _; omega
      · rename_i hd; simp at hd; show 0 = _; omega
    · rw [h0, show 2 - 1 = 0 + 1 from rfl]
      simp only [pathL, List.drop_succ_cons, List.drop_zero]
      rw [packS, if_pos (by rw [List.length_cons, pathL_len]; omega), pairsL, pairs_pathL]
      congr 1
      refine Eq.trans ?_ hj
      congr 2
      apply UInt8.toNat_inj.1
      rw [hm]
      split
      · rename_i hd; simp at hd; show 3 = _; omega
      · rename_i hd; simp at hd; show 1 = _; omega
end Go.Proofs.Ytoeppofkmcdknaa.K
