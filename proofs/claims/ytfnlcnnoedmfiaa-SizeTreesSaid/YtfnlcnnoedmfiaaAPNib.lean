/- Nibbles: plain laws, with no program in sight. -/
import Derived.Test.YtfnlcnnoedmfiaaAPRlp3
namespace Go.Proofs.Ytfnlcnnoedmfiaa.K
open Go
theorem drop_getD {l : List UInt8} {i : Nat} (h : i < l.length) : l.drop i = l.getD i 0 :: l.drop (i + 1) := by
  rw [List.drop_eq_getElem_cons h, List.getD_eq_getElem?_getD, List.getElem?_eq_getElem h]
  rfl
def common : List UInt8 → List UInt8 → Nat
  | a :: r, b :: q => if a = b then common r q + 1 else 0
  | _, _ => 0
theorem common_go {a b : List UInt8} {i : Nat} (h1 : i < a.length) (h2 : i < b.length) : common (a.drop i) (b.drop i) = if (a.getD i 0).toNat = (b.getD i 0).toNat then common (a.drop (i + 1)) (b.drop (i + 1)) + 1 else 0 := by
  rw [drop_getD h1, drop_getD h2, common]
  simp only [UInt8.toNat_inj]
theorem common_end {a b : List UInt8} {i : Nat} (h : ¬ (i < a.length ∧ i < b.length)) : common (a.drop i) (b.drop i) = 0 := by
  by_cases h1 : i < a.length
  · rw [show b.drop i = [] from List.drop_eq_nil_of_le (by omega)]
    cases a.drop i <;> rfl
  · rw [show a.drop i = [] from List.drop_eq_nil_of_le (by omega)]
    rfl
def right (l : List UInt8) : Bool := !(l.any fun b => decide (15 < b.toNat))
theorem right_cons {x : UInt8} {r : List UInt8} : right (x :: r) = (!(decide (15 < x.toNat)) && right r) := by simp [right]
def pairsL : List UInt8 → List UInt8
  | a :: b :: r => (a * 16 ||| b) :: pairsL r
  | _ => []
theorem pairsL_short {l : List UInt8} (h : l.length < 2) : pairsL l = [] := by
  cases l with
  | nil => rfl
  | cons a r => cases r with
    | nil => rfl
    | cons b q => simp at h; omega
def pathL : List UInt8 → List UInt8
  | [] => []
  | c :: r => c / 16 :: c % 16 :: pathL r
theorem pathL_len : ∀ ks : List UInt8, (pathL ks).length = 2 * ks.length
  | [] => rfl
  | c :: r => by simp only [pathL, List.length_cons, pathL_len r]; omega
theorem pathL_get : ∀ (ks : List UInt8) (j : Nat), j < ks.length → (pathL ks)[2 * j]? = some (ks.getD j 0 / 16) ∧ (pathL ks)[2 * j + 1]? = some (ks.getD j 0 % 16)
  | [], j, h => by simp at h
  | c :: r, 0, _ => ⟨rfl, rfl⟩
  | c :: r, j + 1, h => by
    have := pathL_get r j (by simpa using h)
    simp only [pathL, show 2 * (j + 1) = 2 * j + 1 + 1 from by omega, List.getElem?_cons_succ, List.getD_cons_succ]
    exact this
theorem div_mod16 (x : UInt8) : x / 16 % 16 = x / 16 := by
  apply UInt8.toNat_inj.1
  have : x.toNat < 256 := x.toNat_lt
  rw [UInt8.toNat_mod, UInt8.toNat_div]
  exact Nat.mod_eq_of_lt (by show x.toNat / 16 < 16; omega)
theorem path_even (ks : List UInt8) (i : Nat) (h : i % 2 = 0) (hi : i / 2 < ks.length) : (pathL ks).take (i + 1) = (pathL ks).take i ++ [ks.getD (i / 2) 0 / 16 % 16] := by
  have := (pathL_get ks (i / 2) hi).1
  rw [show 2 * (i / 2) = i from by omega] at this
  rw [List.take_add_one, this, div_mod16]
  rfl
theorem path_odd (ks : List UInt8) (i : Nat) (h : i % 2 = 1) (hi : i / 2 < ks.length) : (pathL ks).take (i + 1) = (pathL ks).take i ++ [ks.getD (i / 2) 0 % 16] := by
  have := (pathL_get ks (i / 2) hi).2
  rw [show 2 * (i / 2) + 1 = i from by omega] at this
  rw [List.take_add_one, this]
  rfl
def packS (p : List UInt8) (leaf : Bool) : List UInt8 :=
  if p.length % 2 = 1 then pairsL ((if leaf then 3 else 1) :: p) else pairsL ((if leaf then 2 else 0) :: 0 :: p)
def okP (p : List UInt8) : Bool := right p && decide (p.length ≤ 64)
theorem pairsL_len : ∀ l : List UInt8, (pairsL l).length = l.length / 2
  | [] => rfl
  | [_] => by simp [pairsL]
  | a :: b :: r => by simp only [pairsL, List.length_cons, pairsL_len r]; omega
theorem okP_yes {p : List UInt8} (h : right p = true) (h2 : p.length ≤ 64) : okP p = true := by simp [okP, h, h2]
theorem right_lt {p : List UInt8} (h : right p = true) (i : Nat) : (p.getD i 0).toNat < 16 := by
  by_cases hi : i < p.length
  · rw [List.getD_eq_getElem?_getD, List.getElem?_eq_getElem hi]
    simp only [right, Bool.not_eq_true', List.any_eq_false, decide_eq_true_eq] at h
    have := h p[i] (List.getElem_mem hi)
    simp only [Option.getD_some]
    omega
  · rw [List.getD_eq_getElem?_getD, List.getElem?_eq_none (by omega)]
    decide
theorem or_add {a b : UInt8} (h : b.toNat < 16) : 16 * a + b = a * 16 ||| b := by
  apply UInt8.toNat_inj.1
  rw [UInt8.toNat_or, UInt8.toNat_add, UInt8.toNat_mul, UInt8.toNat_mul]
  have e : (16 : UInt8).toNat = 16 := rfl
  rw [e]
  have h1 : a.toNat < 256 := a.toNat_lt
  have h2 : a.toNat * 16 % 2 ^ 8 = 2 ^ 4 * (a.toNat % 16) := by omega
  rw [h2, ← Nat.two_pow_add_eq_or_of_lt (show b.toNat < 2 ^ 4 by omega)]
  omega
theorem packS_even_true {p : List UInt8} (h : p.length % 2 = 0) : packS p true = [32] ++ pairsL (p.drop 0) := by
  rw [packS, if_neg (by omega)]; rfl
theorem packS_even_false {p : List UInt8} (h : p.length % 2 = 0) : packS p false = [0] ++ pairsL (p.drop 0) := by
  rw [packS, if_neg (by omega)]; rfl
theorem ofNat_add {b : UInt8} {n : Nat} (h : b.toNat < 16) (hn : n < 200) : UInt8.ofNat ((n : Int) + (b.toNat : Int)).toNat = UInt8.ofNat n + b := by
  apply UInt8.toNat_inj.1
  rw [UInt8.toNat_add, UInt8.toNat_ofNat', UInt8.toNat_ofNat']
  omega
theorem pairsL_drop {p : List UInt8} (m : UInt8) (h : p.length % 2 = 1) (h2 : (p.getD 0 0).toNat < 16) : pairsL (m :: p) = (16 * m + p.getD 0 0) :: pairsL (p.drop 1) := by
  have e : p = p.getD 0 0 :: p.drop 1 := by have := drop_getD (l := p) (i := 0) (by omega); simpa using this
  rw [or_add h2]
  conv => lhs; rw [e]
  rfl
theorem packS_odd_true {p : List UInt8} (h : p.length % 2 = 1) (h2 : (p.getD 0 0).toNat < 16) : packS p true = [UInt8.ofNat (48 + ((p.getD 0 0).toNat : Int)).toNat] ++ pairsL (p.drop 1) := by
  rw [packS, if_pos h]
  have e := ofNat_add (n := 48) h2 (by omega)
  simp only [if_true]
  rw [pairsL_drop 3 h h2]
  exact congrArg (· :: pairsL (p.drop 1)) e.symm
theorem packS_odd_false {p : List UInt8} (h : p.length % 2 = 1) (h2 : (p.getD 0 0).toNat < 16) : packS p false = [UInt8.ofNat (16 + ((p.getD 0 0).toNat : Int)).toNat] ++ pairsL (p.drop 1) := by
  rw [packS, if_pos h]
  have e := ofNat_add (n := 16) h2 (by omega)
  simp only [if_false, Bool.false_eq_true]
  rw [pairsL_drop 1 h h2]
  exact congrArg (· :: pairsL (p.drop 1)) e.symm
theorem div16_nat (c : UInt8) : (c / 16).toNat = c.toNat / 16 := by rw [UInt8.toNat_div]; rfl
theorem mod16_nat (c : UInt8) : (c % 16).toNat = c.toNat % 16 := by rw [UInt8.toNat_mod]; rfl
theorem okP_ok {p : List UInt8} (h : okP p = true) : right p = true ∧ p.length ≤ 64 := by simpa [okP] using h
theorem packS_len (p : List UInt8) (leaf : Bool) : (packS p leaf).length = p.length / 2 + 1 := by
  unfold packS
  split
  · rw [pairsL_len, List.length_cons]; omega
  · rw [pairsL_len, List.length_cons, List.length_cons]; omega
theorem byte_join (c : UInt8) : (c / 16 * 16 ||| c % 16) = c := by
  have h : (c % 16).toNat < 16 := by rw [mod16_nat]; omega
  rw [← or_add h]
  apply UInt8.toNat_inj.1
  rw [UInt8.toNat_add, UInt8.toNat_mul, div16_nat, mod16_nat]
  have := c.toNat_lt
  show (16 * (c.toNat / 16) % 256 + c.toNat % 16) % 256 = _
  omega
theorem pairs_pathL : ∀ (k : List UInt8), pairsL (pathL k) = k
  | [] => rfl
  | c :: r => by rw [pathL, pairsL, byte_join, pairs_pathL r]
theorem right_pathL : ∀ (k : List UInt8), right (pathL k) = true
  | [] => rfl
  | c :: r => by
    have h1 : (c / 16).toNat < 16 := by rw [div16_nat]; have := c.toNat_lt; omega
    have h2 : (c % 16).toNat < 16 := by rw [mod16_nat]; omega
    rw [pathL, right_cons, right_cons, right_pathL r, decide_eq_false (by omega), decide_eq_false (by omega)]
    rfl
theorem right_drop {p : List UInt8} (h : right p = true) (k : Nat) : right (p.drop k) = true := by
  unfold right at h ⊢
  simp only [Bool.not_eq_true', List.any_eq_false] at h ⊢
  exact fun x hx => h x (List.mem_of_mem_drop hx)
end Go.Proofs.Ytfnlcnnoedmfiaa.K
