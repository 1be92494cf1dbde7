/- Nibbles: plain laws, with no program in sight. -/
import Derived.Test.YtonlehebfeilmaaK25
namespace Go.Proofs.Ytonlehebfeilmaa.K
open Go
theorem ne_self (a : Int) : (a != a) = false := by simp
theorem drop_getD {l : List UInt8} {i : Nat} (h : i < l.length) : l.drop i = l.getD i 0 :: l.drop (i + 1) := by
  rw [List.drop_eq_getElem_cons h, List.getD_eq_getElem?_getD, List.getElem?_eq_getElem h]
  rfl
def common : List UInt8 → List UInt8 → Nat
  | a :: r, b :: q => if a = b then common r q + 1 else 0
  | _, _ => 0
theorem common_go {a b : List UInt8} {i : Nat} (h1 : i < a.length) (h2 : i < b.length) : common (a.drop i) (b.drop i) = if (a.getD i 0).toNat = (b.getD i 0).toNat then common (a.drop (i + 1)) (b.drop (i + 1)) + 1 else 0 := by
  rw [drop_getD h1, drop_getD h2, common]
  simp only [UInt8.toNat_inj]
theorem common_end {a b : List UInt8} {i : Nat} (h : ¬ (i < a.length ∧ i < b.length)) : common (a.drop i) (b.drop i) = 0 := by
  by_cases h1 : i < a.length
  · rw [List.drop_eq_nil_of_le (as := b) (by omega)]
    cases a.drop i <;> rfl
  · rw [List.drop_eq_nil_of_le (as := a) (by omega)]
    rfl
def cmpB (a b : UInt8) : Int := if a.toNat < b.toNat then -1 else if b.toNat < a.toNat then 1 else 0
def cmpL : List UInt8 → List UInt8 → Int
  | a :: r, b :: q => if cmpB a b = 0 then cmpL r q else cmpB a b
  | [], [] => 0
  | [], _ :: _ => -1
  | _ :: _, [] => 1
theorem cmpL_go {a b : List UInt8} {i : Nat} (h1 : i < a.length) (h2 : i < b.length) : cmpL (a.drop i) (b.drop i) = if cmpB (a.getD i 0) (b.getD i 0) = 0 then cmpL (a.drop (i + 1)) (b.drop (i + 1)) else cmpB (a.getD i 0) (b.getD i 0) := by
  rw [drop_getD h1, drop_getD h2, cmpL]
theorem cmpL_short {a b : List UInt8} {i : Nat} {n : Int} (h : n = cmpL (a.drop i) (b.drop i)) (h1 : i < a.length) (h2 : b.length ≤ i) : 1 = n := by
  rw [h, drop_getD h1, List.drop_eq_nil_of_le h2]; rfl
theorem cmpL_end {a b : List UInt8} {i : Nat} {n : Int} (h : n = cmpL (a.drop i) (b.drop i)) (h1 : a.length ≤ i) (h2 : a.length < b.length ∧ i ≤ a.length) : -1 = n := by
  rw [h, List.drop_eq_nil_of_le h1, drop_getD (by omega)]; rfl
theorem cmpL_same {a b : List UInt8} {i : Nat} {n : Int} (h : n = cmpL (a.drop i) (b.drop i)) (h1 : a.length ≤ i) (h2 : b.length ≤ i) : 0 = n := by
  rw [h, List.drop_eq_nil_of_le h1, List.drop_eq_nil_of_le h2]; rfl
theorem less_cmp : ∀ a b : List UInt8, Op.bytesLess a b = decide (cmpL a b < 0)
  | [], [] => by simp [Op.bytesLess, cmpL]
  | [], _ :: _ => by simp [Op.bytesLess, cmpL]
  | _ :: _, [] => by simp [Op.bytesLess, cmpL]
  | a :: r, b :: q => by
    have ih := less_cmp r q
    have hE : (a == b) = decide (a.toNat = b.toNat) := by rw [Bool.eq_iff_iff]; simp [UInt8.toNat_inj]
    simp only [Op.bytesLess, cmpL, cmpB, UInt8.lt_iff_toNat_lt, ih, hE]
    rcases Nat.lt_trichotomy a.toNat b.toNat with h | h | h
    · simp [h]
    · simp [h]
    · simp [h, show ¬ a.toNat < b.toNat from by omega, show ¬ a.toNat = b.toNat from by omega]
def idxAt (p : UInt8 → Bool) : Int → List UInt8 → Int
  | _, [] => -1
  | i, x :: r => if p x = true then i else idxAt p (i + 1) r
theorem idxAt_iff (p : UInt8 → Bool) : ∀ (l : List UInt8) (i : Int), 0 ≤ i → (idxAt p i l ≥ 0 ↔ l.any p = true)
  | [], i, _ => by simp [idxAt]
  | x :: r, i, h => by
    by_cases hp : p x = true
    · simp [idxAt, hp, h]
    · have := idxAt_iff p r (i + 1) (by omega)
      simp [idxAt, hp] at this ⊢
      exact this
theorem idx_any (p : UInt8 → Bool) (l : List UInt8) : decide (idxAt p 0 l ≥ 0) = l.any p := by
  rw [Bool.eq_iff_iff, decide_eq_true_eq]
  exact idxAt_iff p l 0 (by omega)
def right (l : List UInt8) : Bool := !(l.any fun b => decide (15 < b.toNat))
theorem right_cons {x : UInt8} {r : List UInt8} : right (x :: r) = (!(decide (15 < x.toNat)) && right r) := by simp [right]
def pairsL : List UInt8 → List UInt8
  | a :: b :: r => (a * 16 ||| b) :: pairsL r
  | _ => []
theorem pairsL_short {l : List UInt8} (h : l.length < 2) : pairsL l = [] := by
  cases l with
  | nil => rfl
  | cons a r => cases r with
    | nil => rfl
    | cons b q => simp at h; omega
def pathL : List UInt8 → List UInt8
  | [] => []
  | c :: r => c / 16 :: c % 16 :: pathL r
theorem pathL_len : ∀ ks : List UInt8, (pathL ks).length = 2 * ks.length
  | [] => rfl
  | c :: r => by simp only [pathL, List.length_cons, pathL_len r]; omega
theorem pathL_get : ∀ (ks : List UInt8) (j : Nat), j < ks.length → (pathL ks)[2 * j]? = some (ks.getD j 0 / 16) ∧ (pathL ks)[2 * j + 1]? = some (ks.getD j 0 % 16)
  | [], j, h => by simp at h
  | c :: r, 0, _ => ⟨rfl, rfl⟩
  | c :: r, j + 1, h => by
    have := pathL_get r j (by simpa using h)
    simp only [pathL, show 2 * (j + 1) = 2 * j + 1 + 1 from by omega, List.getElem?_cons_succ, List.getD_cons_succ]
    exact this
theorem div_mod16 (x : UInt8) : x / 16 % 16 = x / 16 := by
  apply UInt8.toNat_inj.1
  have : x.toNat < 256 := x.toNat_lt
  rw [UInt8.toNat_mod, UInt8.toNat_div]
  exact Nat.mod_eq_of_lt (by show x.toNat / 16 < 16; omega)
theorem path_even (ks : List UInt8) (i : Nat) (h : i % 2 = 0) (hi : i / 2 < ks.length) : (pathL ks).take (i + 1) = (pathL ks).take i ++ [ks.getD (i / 2) 0 / 16 % 16] := by
  have := (pathL_get ks (i / 2) hi).1
  rw [show 2 * (i / 2) = i from by omega] at this
  rw [List.take_add_one, this, div_mod16]
  rfl
theorem path_odd (ks : List UInt8) (i : Nat) (h : i % 2 = 1) (hi : i / 2 < ks.length) : (pathL ks).take (i + 1) = (pathL ks).take i ++ [ks.getD (i / 2) 0 % 16] := by
  have := (pathL_get ks (i / 2) hi).2
  rw [show 2 * (i / 2) + 1 = i from by omega] at this
  rw [List.take_add_one, this]
  rfl
def packS (p : List UInt8) (leaf : Bool) : List UInt8 :=
  if p.length % 2 = 1 then pairsL ((if leaf then 3 else 1) :: p) else pairsL ((if leaf then 2 else 0) :: 0 :: p)
def okP (p : List UInt8) : Bool := right p && decide (p.length ≤ 64)
def okK (p : List UInt8) : Bool := right p && decide (p.length = 64)
theorem pairsL_len : ∀ l : List UInt8, (pairsL l).length = l.length / 2
  | [] => rfl
  | [_] => by simp [pairsL]
  | a :: b :: r => by simp only [pairsL, List.length_cons, pairsL_len r]; omega
theorem flat_go {ps : List (List UInt8)} {i : Nat} (h : i < ps.length) : (ps.drop i).flatten = ps.getD i [] ++ (ps.drop (i + 1)).flatten := by
  rw [List.drop_eq_getElem_cons h, List.flatten_cons, List.getD_eq_getElem?_getD, List.getElem?_eq_getElem h]
  rfl
theorem flat_room {ps : List (List UInt8)} {i : Nat} {o : List UInt8} (h : ps.flatten = o ++ (ps.drop i).flatten) : o.length ≤ ps.flatten.length := by rw [h]; simp
theorem flat_room2 {ps : List (List UInt8)} {i : Nat} {o : List UInt8} (h : ps.flatten = o ++ (ps.drop i).flatten) (hi : i < ps.length) : o.length + (ps.getD i []).length ≤ ps.flatten.length := by rw [h, flat_go hi]; simp
def digs : List UInt8 := [48, 49, 50, 51, 52, 53, 54, 55, 56, 57, 97, 98, 99, 100, 101, 102]
def textB (c : UInt8) : UInt8 := if 15 < c.toNat then 63 else digs.getD c.toNat 0
def textL : List UInt8 → List UInt8
  | [] => []
  | c :: r => textB c :: textL r
theorem okP_yes {p : List UInt8} (h : right p = true) (h2 : p.length ≤ 64) : okP p = true := by simp [okP, h, h2]
theorem okP_no {p : List UInt8} (h : right p = false ∨ 64 < p.length) : okP p = false := by
  rcases h with h | h
  · simp [okP, h]
  · simp [okP, h]
theorem okK_yes {p : List UInt8} (h : right p = true) (h2 : p.length = 64) : okK p = true := by simp [okK, h, h2]
theorem okK_no {p : List UInt8} (h : right p = false ∨ p.length ≠ 64) : okK p = false := by
  rcases h with h | h
  · simp [okK, h]
  · simp [okK, h]
theorem right_lt {p : List UInt8} (h : right p = true) (i : Nat) : (p.getD i 0).toNat < 16 := by
  by_cases hi : i < p.length
  · rw [List.getD_eq_getElem?_getD, List.getElem?_eq_getElem hi]
    simp only [right, Bool.not_eq_true', List.any_eq_false, decide_eq_true_eq] at h
    have := h p[i] (List.getElem_mem hi)
    simp only [Option.getD_some]
    omega
  · rw [List.getD_eq_getElem?_getD, List.getElem?_eq_none (by omega)]
    decide
theorem or_add {a b : UInt8} (h : b.toNat < 16) : 16 * a + b = a * 16 ||| b := by
  apply UInt8.toNat_inj.1
  rw [UInt8.toNat_or, UInt8.toNat_add, UInt8.toNat_mul, UInt8.toNat_mul]
  have e : (16 : UInt8).toNat = 16 := rfl
  rw [e]
  have h1 : a.toNat < 256 := a.toNat_lt
  have h2 : a.toNat * 16 % 2 ^ 8 = 2 ^ 4 * (a.toNat % 16) := by omega
  rw [h2, ← Nat.two_pow_add_eq_or_of_lt (show b.toNat < 2 ^ 4 by omega)]
  omega
theorem packS_even_true {p : List UInt8} (h : p.length % 2 = 0) : packS p true = [32] ++ pairsL (p.drop 0) := by
  rw [packS, if_neg (by omega)]; rfl
theorem packS_even_false {p : List UInt8} (h : p.length % 2 = 0) : packS p false = [0] ++ pairsL (p.drop 0) := by
  rw [packS, if_neg (by omega)]; rfl
theorem ofNat_add {b : UInt8} {n : Nat} (h : b.toNat < 16) (hn : n < 200) : UInt8.ofNat ((n : Int) + (b.toNat : Int)).toNat = UInt8.ofNat n + b := by
  apply UInt8.toNat_inj.1
  rw [UInt8.toNat_add, UInt8.toNat_ofNat', UInt8.toNat_ofNat']
  omega
theorem pairsL_drop {p : List UInt8} (m : UInt8) (h : p.length % 2 = 1) (h2 : (p.getD 0 0).toNat < 16) : pairsL (m :: p) = (16 * m + p.getD 0 0) :: pairsL (p.drop 1) := by
  have e : p = p.getD 0 0 :: p.drop 1 := by have := drop_getD (l := p) (i := 0) (by omega); simpa using this
  rw [or_add h2]
  conv => lhs; rw [e]
  rfl
theorem packS_odd_true {p : List UInt8} (h : p.length % 2 = 1) (h2 : (p.getD 0 0).toNat < 16) : packS p true = [UInt8.ofNat (48 + ((p.getD 0 0).toNat : Int)).toNat] ++ pairsL (p.drop 1) := by
  rw [packS, if_pos h]
  have e := ofNat_add (n := 48) h2 (by omega)
  simp only [if_true]
  rw [pairsL_drop 3 h h2]
  exact congrArg (· :: pairsL (p.drop 1)) e.symm
theorem packS_odd_false {p : List UInt8} (h : p.length % 2 = 1) (h2 : (p.getD 0 0).toNat < 16) : packS p false = [UInt8.ofNat (16 + ((p.getD 0 0).toNat : Int)).toNat] ++ pairsL (p.drop 1) := by
  rw [packS, if_pos h]
  have e := ofNat_add (n := 16) h2 (by omega)
  simp only [if_false, Bool.false_eq_true]
  rw [pairsL_drop 1 h h2]
  exact congrArg (· :: pairsL (p.drop 1)) e.symm
theorem cons_beq_nil {c : UInt8} {r : List UInt8} : ((c :: r) == []) = false := rfl
def unpBad (c : UInt8) (n : Nat) : Bool := decide (3 < c.toNat / 16) || (decide (c.toNat / 16 % 2 = 0) && decide (c.toNat % 16 ≠ 0)) || decide (64 + (2 - c.toNat / 16 % 2) < 2 * n)
def unpE : List UInt8 → Int
  | [] => 5
  | c :: r => if unpBad c (r.length + 1) then 6 else 0
def unpP : List UInt8 → List UInt8
  | [] => []
  | c :: r => if unpBad c (r.length + 1) then [] else (pathL (c :: r)).drop (2 - c.toNat / 16 % 2)
def unpL : List UInt8 → Bool
  | [] => false
  | c :: r => if unpBad c (r.length + 1) then false else decide (2 ≤ c.toNat / 16)
theorem pathL_append : ∀ (a b : List UInt8), pathL (a ++ b) = pathL a ++ pathL b
  | [], b => rfl
  | x :: r, b => by simp only [List.cons_append, pathL, pathL_append r b]
theorem pathL_take {l : List UInt8} {i : Nat} (h : i < l.length) : pathL (l.take (i + 1)) = pathL (l.take i) ++ [l.getD i 0 / 16, l.getD i 0 % 16] := by
  rw [List.take_add_one, pathL_append, List.getD_eq_getElem?_getD, List.getElem?_eq_getElem h]
  rfl
theorem unp_head {c : UInt8} {r o : List UInt8} {i : Nat} (f : o = pathL ((c :: r).take i)) (hi : 0 < i) : o.getD 0 0 = c / 16 ∧ o.getD 1 0 = c % 16 := by
  obtain ⟨j, rfl⟩ : ∃ j, i = j + 1 := ⟨i - 1, by omega⟩
  subst f
  exact ⟨rfl, rfl⟩
theorem div16_nat (c : UInt8) : (c / 16).toNat = c.toNat / 16 := by rw [UInt8.toNat_div]; rfl
theorem mod16_nat (c : UInt8) : (c % 16).toNat = c.toNat % 16 := by rw [UInt8.toNat_mod]; rfl
theorem unpBad_iff (c : UInt8) (n : Nat) : unpBad c n = true ↔ (3 < c.toNat / 16 ∨ (c.toNat / 16 % 2 = 0 ∧ c.toNat % 16 ≠ 0) ∨ 64 + (2 - c.toNat / 16 % 2) < 2 * n) := by
  simp [unpBad, or_assoc]
theorem unp_bad {c : UInt8} {r o : List UInt8} {i : Nat} (f : o = pathL ((c :: r).take i)) (hi : 0 < i)
    (h : 3 < ((o.getD 0 0).toNat : Int) ∨ (((o.getD 0 0).toNat : Int) % 2 = 0 ∧ ((o.getD 1 0).toNat : Int) ≠ 0) ∨ 64 < 2 * ((r.length + 1 : Nat) : Int) - (2 - ((o.getD 0 0).toNat : Int) % 2)) :
    D.tuple [D.slice [], .val (.bool false), .val (.int .i64 6)] = D.tuple [D.slice ((unpP (c :: r)).map byteD), .val (.bool (unpL (c :: r))), .val (.int .i64 (unpE (c :: r)))] := by
  obtain ⟨e0, e1⟩ := unp_head f hi
  rw [e0, e1, div16_nat, mod16_nat] at h
  have hb : unpBad c (r.length + 1) = true := (unpBad_iff _ _).2 (by omega)
  simp only [unpP, unpL, unpE, hb, if_true, List.map_nil]
theorem unp_good {c : UInt8} {r o : List UInt8} {i : Nat} (f : o = pathL ((c :: r).take i)) (hi : i = min (r.length + 1) 64)
    (h : ¬ (3 < ((o.getD 0 0).toNat : Int) ∨ (((o.getD 0 0).toNat : Int) % 2 = 0 ∧ ((o.getD 1 0).toNat : Int) ≠ 0) ∨ 64 < 2 * ((r.length + 1 : Nat) : Int) - (2 - ((o.getD 0 0).toNat : Int) % 2))) :
    D.tuple [D.slice (((o.map byteD).drop (2 - ((o.getD 0 0).toNat : Int) % 2).toNat).take (((o.length : Nat) : Int) - (2 - ((o.getD 0 0).toNat : Int) % 2)).toNat), .val (.bool (decide (((o.getD 0 0).toNat : Int) ≥ 2))), .val (.int .i64 0)] =
      D.tuple [D.slice ((unpP (c :: r)).map byteD), .val (.bool (unpL (c :: r))), .val (.int .i64 (unpE (c :: r)))] := by
  obtain ⟨e0, e1⟩ := unp_head f (by omega)
  rw [e0, e1, div16_nat, mod16_nat] at h
  have hb : unpBad c (r.length + 1) = false := by
    rw [Bool.eq_false_iff, ne_eq, unpBad_iff]
    omega
  have ho : o = pathL (c :: r) := by rw [f, List.take_of_length_le (by simp; omega)]
  rw [e0, div16_nat]
  have e2 : (2 - ((c.toNat / 16 : Nat) : Int) % 2).toNat = 2 - c.toNat / 16 % 2 := by omega
  rw [e2, List.take_of_length_le (by simp; omega)]
  have e3 : decide (((c.toNat / 16 : Nat) : Int) ≥ 2) = decide (2 ≤ c.toNat / 16) := by
    rw [Bool.eq_iff_iff]
    simp only [decide_eq_true_eq]
    omega
  rw [e3]
  simp only [unpP, unpL, unpE, hb, Bool.false_eq_true, if_false, ← ho, List.map_drop]
theorem aw1 : okP [1, 2, 3] = true := by decide
theorem aw2 : packS [1, 2, 3] true = [49, 35] := by decide
theorem aw3 : unpP [0, 18] = [1, 2] := by decide
theorem aw4 : unpL [0, 18] = false := by decide
theorem aw5 : unpE [0, 18] = 0 := by decide
theorem aw6 : common [1, 2] [1, 3] = 1 := by decide
theorem aw7 : textL [10, 99] = [97, 63] := by decide
theorem okP_ok {p : List UInt8} (h : okP p = true) : right p = true ∧ p.length ≤ 64 := by simpa [okP] using h
theorem packS_len (p : List UInt8) (leaf : Bool) : (packS p leaf).length = p.length / 2 + 1 := by
  unfold packS
  split
  · rw [pairsL_len, List.length_cons]; omega
  · rw [pairsL_len, List.length_cons, List.length_cons]; omega
theorem byte_parts {a b : UInt8} (ha : a.toNat < 16) (hb : b.toNat < 16) : (a * 16 ||| b) / 16 = a ∧ (a * 16 ||| b) % 16 = b := by
  rw [← or_add hb]
  have e : (16 * a + b).toNat = 16 * a.toNat + b.toNat := by
    rw [UInt8.toNat_add, UInt8.toNat_mul]
    show (16 * a.toNat % 256 + b.toNat) % 256 = _
    omega
  constructor
  · apply UInt8.toNat_inj.1
    rw [div16_nat, e]; omega
  · apply UInt8.toNat_inj.1
    rw [mod16_nat, e]; omega
theorem byte_join (c : UInt8) : (c / 16 * 16 ||| c % 16) = c := by
  have h : (c % 16).toNat < 16 := by rw [mod16_nat]; omega
  rw [← or_add h]
  apply UInt8.toNat_inj.1
  rw [UInt8.toNat_add, UInt8.toNat_mul, div16_nat, mod16_nat]
  have := c.toNat_lt
  show (16 * (c.toNat / 16) % 256 + c.toNat % 16) % 256 = _
  omega
theorem right_tail {x : UInt8} {r : List UInt8} (h : right (x :: r) = true) : x.toNat < 16 ∧ right r = true := by
  rw [right_cons] at h
  simp at h
  exact ⟨by omega, h.2⟩
theorem pathL_pairs : ∀ (q : List UInt8), q.length % 2 = 0 → right q = true → pathL (pairsL q) = q
  | [], _, _ => rfl
  | [_], h, _ => by simp at h
  | a :: b :: r, h, hr => by
    obtain ⟨h1, h2⟩ := right_tail hr
    obtain ⟨h3, h4⟩ := right_tail h2
    obtain ⟨e1, e2⟩ := byte_parts h1 h3
    rw [pairsL, pathL, e1, e2, pathL_pairs r (by simp at h; omega) h4]
theorem pairs_pathL : ∀ (k : List UInt8), pairsL (pathL k) = k
  | [] => rfl
  | c :: r => by rw [pathL, pairsL, byte_join, pairs_pathL r]
theorem right_pathL : ∀ (k : List UInt8), right (pathL k) = true
  | [] => rfl
  | c :: r => by
    have h1 : (c / 16).toNat < 16 := by rw [div16_nat]; have := c.toNat_lt; omega
    have h2 : (c % 16).toNat < 16 := by rw [mod16_nat]; omega
    rw [pathL, right_cons, right_cons, right_pathL r, decide_eq_false (by omega), decide_eq_false (by omega)]
    rfl
theorem unp_one (m x : UInt8) (q : List UInt8) (hm : m.toNat < 4) (ho : m.toNat % 2 = 1) (hx : x.toNat < 16) (hq : right q = true) (he : q.length % 2 = 0) (hl : q.length < 64) :
    unpP ((m * 16 ||| x) :: pairsL q) = x :: q ∧ unpL ((m * 16 ||| x) :: pairsL q) = decide (2 ≤ m.toNat) ∧ unpE ((m * 16 ||| x) :: pairsL q) = 0 := by
  obtain ⟨e1, e2⟩ := byte_parts (show m.toNat < 16 by omega) hx
  have e3 := congrArg UInt8.toNat e1
  have e4 := congrArg UInt8.toNat e2
  rw [div16_nat] at e3
  rw [mod16_nat] at e4
  have hb : unpBad (m * 16 ||| x) ((pairsL q).length + 1) = false := by
    rw [Bool.eq_false_iff, ne_eq, unpBad_iff, e3, e4, pairsL_len]
    omega
  simp only [unpP, unpL, unpE, hb, Bool.false_eq_true, if_false, e3, ho, pathL, e1, e2, pathL_pairs q he hq, List.drop_succ_cons, List.drop_zero, and_true]
theorem unp_two (m : UInt8) (q : List UInt8) (hm : m.toNat < 4) (ho : m.toNat % 2 = 0) (hq : right q = true) (he : q.length % 2 = 0) (hl : q.length ≤ 64) :
    unpP ((m * 16 ||| 0) :: pairsL q) = q ∧ unpL ((m * 16 ||| 0) :: pairsL q) = decide (2 ≤ m.toNat) ∧ unpE ((m * 16 ||| 0) :: pairsL q) = 0 := by
  obtain ⟨e1, e2⟩ := byte_parts (show m.toNat < 16 by omega) (show (0 : UInt8).toNat < 16 by decide)
  have e3 := congrArg UInt8.toNat e1
  have e4 := congrArg UInt8.toNat e2
  rw [div16_nat] at e3
  rw [mod16_nat] at e4
  have e5 : (0 : UInt8).toNat = 0 := rfl
  have hb : unpBad (m * 16 ||| 0) ((pairsL q).length + 1) = false := by
    rw [Bool.eq_false_iff, ne_eq, unpBad_iff, e3, e4, pairsL_len, e5]
    omega
  simp only [unpP, unpL, unpE, hb, Bool.false_eq_true, if_false, e3, ho, pathL, e1, e2, pathL_pairs q he hq, Nat.sub_zero, List.drop_succ_cons, List.drop_zero, and_true]
theorem unp_pack {p : List UInt8} (h : okP p = true) (leaf : Bool) : unpP (packS p leaf) = p ∧ unpL (packS p leaf) = leaf ∧ unpE (packS p leaf) = 0 := by
  obtain ⟨h1, h2⟩ := okP_ok h
  unfold packS
  split
  · rename_i ho
    cases p with
    | nil => simp at ho
    | cons x q =>
      obtain ⟨h3, h4⟩ := right_tail h1
      simp at ho h2
      cases leaf
      · exact unp_one 1 x q (by decide) (by decide) h3 h4 (by omega) (by omega)
      · exact unp_one 3 x q (by decide) (by decide) h3 h4 (by omega) (by omega)
  · cases leaf
    · exact unp_two 0 p (by decide) (by decide) h1 (by omega) h2
    · exact unp_two 2 p (by decide) (by decide) h1 (by omega) h2
theorem unpP_nil : unpP [] = [] := rfl
theorem unpL_nil : unpL [] = false := rfl
theorem unpE_nil : unpE [] = 5 := rfl
theorem unp_is_bad {c : UInt8} {r : List UInt8} (h : unpBad c (r.length + 1) = true) : unpP (c :: r) = [] ∧ unpL (c :: r) = false ∧ unpE (c :: r) = 6 := by
  simp only [unpP, unpL, unpE, h, if_true, and_true]
theorem right_drop {p : List UInt8} (h : right p = true) (k : Nat) : right (p.drop k) = true := by
  unfold right at h ⊢
  simp only [Bool.not_eq_true', List.any_eq_false] at h ⊢
  exact fun x hx => h x (List.mem_of_mem_drop hx)
theorem unp_is_good {c : UInt8} {r : List UInt8} (h : unpBad c (r.length + 1) = false) : unpE (c :: r) = 0 ∧ right (unpP (c :: r)) = true ∧ (unpP (c :: r)).length ≤ 64 ∧ packS (unpP (c :: r)) (unpL (c :: r)) = c :: r := by
  have hb := h
  rw [Bool.eq_false_iff, ne_eq, unpBad_iff] at hb
  have hm : (c / 16).toNat = c.toNat / 16 := div16_nat c
  have hx : (c % 16).toNat = c.toNat % 16 := mod16_nat c
  have hj := byte_join c
  refine ⟨by simp [unpE, h], ?_, ?_, ?_⟩
  · simp only [unpP, h, Bool.false_eq_true, if_false]
    exact right_drop (right_pathL _) _
  · simp only [unpP, h, Bool.false_eq_true, if_false, List.length_drop, pathL_len, List.length_cons]
    omega
  · simp only [unpP, unpL, h, Bool.false_eq_true, if_false]
    rcases Nat.mod_two_eq_zero_or_one (c.toNat / 16) with h0 | h0
    · have hx0 : c % 16 = 0 := by apply UInt8.toNat_inj.1; rw [hx]; show _ = 0; omega
      rw [h0, show 2 - 0 = 1 + 1 from rfl]
      simp only [pathL, List.drop_succ_cons, List.drop_zero]
      rw [packS, if_neg (by rw [pathL_len]; omega), pairsL, pairs_pathL]
      congr 1
      rw [← hj, hx0]
      congr 2
      apply UInt8.toNat_inj.1
      rw [hm]
      split
      · rename_i hd; simp at hd; show 2 = _; omega
      · rename_i hd; simp at hd; show 0 = _; omega
    · rw [h0, show 2 - 1 = 0 + 1 from rfl]
      simp only [pathL, List.drop_succ_cons, List.drop_zero]
      rw [packS, if_pos (by rw [List.length_cons, pathL_len]; omega), pairsL, pairs_pathL]
      congr 1
      refine Eq.trans ?_ hj
      congr 2
      apply UInt8.toNat_inj.1
      rw [hm]
      split
      · rename_i hd; simp at hd; show 3 = _; omega
      · rename_i hd; simp at hd; show 1 = _; omega
theorem textL_len : ∀ p : List UInt8, (textL p).length = p.length
  | [] => rfl
  | _ :: r => by simp only [textL, List.length_cons, textL_len r]
theorem textL_get : ∀ (p : List UInt8) (i : Nat), i < p.length → (textL p).drop i = textB (p.getD i 0) :: (textL p).drop (i + 1)
  | [], i, h => by simp at h
  | c :: r, 0, _ => rfl
  | c :: r, i + 1, h => by simpa [textL] using textL_get r i (by simpa using h)
theorem txt_take {a : List UInt8} {i : Nat} (hi : i < a.length) : ((textL a).drop i).take (i + 1 - i) = [textB (a.getD i 0)] := by
  rw [textL_get a i hi, show i + 1 - i = 0 + 1 by omega]
  rfl
theorem txt_q {a : List UInt8} {i : Nat} (hi : i < a.length) (h : 16 ≤ ((a.getD i 0).toNat : Int)) : ((textL a).drop i).take (i + 1 - i) = [63] := by
  rw [txt_take hi, textB, if_pos (by omega)]
theorem txt_dig {a : List UInt8} {i : Nat} (hi : i < a.length) (h : ((a.getD i 0).toNat : Int) < 16) :
    ((textL a).drop i).take (i + 1 - i) = ([48, 49, 50, 51, 52, 53, 54, 55, 56, 57, 97, 98, 99, 100, 101, 102].drop (a.getD i 0).toNat).take ((a.getD i 0).toNat + 1 - (a.getD i 0).toNat) := by
  rw [txt_take hi, textB, if_neg (by omega)]
  have h2 : (a.getD i 0).toNat < digs.length := by show _ < 16; omega
  show _ = (digs.drop (a.getD i 0).toNat).take _
  rw [drop_getD h2, show (a.getD i 0).toNat + 1 - (a.getD i 0).toNat = 0 + 1 by omega]
  rfl
end Go.Proofs.Ytonlehebfeilmaa.K
