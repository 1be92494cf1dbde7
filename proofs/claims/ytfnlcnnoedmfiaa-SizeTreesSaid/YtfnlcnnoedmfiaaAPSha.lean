/- Sums: plain laws, with no program in sight. -/
import Derived.Test.YtfnlcnnoedmfiaaAPBase
namespace Go.Proofs.Ytfnlcnnoedmfiaa.K
open Go
def rotr (x : Wd) (n : Nat) : Wd := x.rotateRight n
def be32 (a b c d : UInt8) : Wd := (((a.toBitVec.setWidth 32 <<< 24) ||| (b.toBitVec.setWidth 32 <<< 16)) ||| (c.toBitVec.setWidth 32 <<< 8)) ||| d.toBitVec.setWidth 32
def mixS (x : Wd) (a b c : Nat) (shift : Bool) : Wd := if shift then (rotr x a ^^^ rotr x b) ^^^ (x >>> c) else (rotr x a ^^^ rotr x b) ^^^ rotr x c
def wAt (s : List UInt8) (i : Nat) : Wd :=
  if h : i < 16 then be32 (s.getD (4 * i) 0) (s.getD (4 * i + 1) 0) (s.getD (4 * i + 2) 0) (s.getD (4 * i + 3) 0)
  else wAt s (i - 16) + mixS (wAt s (i - 15)) 7 18 3 true + wAt s (i - 7) + mixS (wAt s (i - 2)) 17 19 10 true
termination_by i
def wUpto (s : List UInt8) (n : Nat) : List Wd := (List.range n).map (wAt s)
theorem wUpto_len (s : List UInt8) (n : Nat) : (wUpto s n).length = n := by simp [wUpto]
theorem wUpto_get {s : List UInt8} {n i : Nat} (h : i < n) : (wUpto s n).getD i 0 = wAt s i := by
  rw [wUpto, List.getD_eq_getElem?_getD, List.getElem?_map, List.getElem?_range h]
  rfl
theorem wUpto_succ (s : List UInt8) (n : Nat) : wUpto s (n + 1) = wUpto s n ++ [wAt s n] := by simp [wUpto, List.range_succ]
def shaK : List Wd := [1116352408, 1899447441, 3049323471, 3921009573, 961987163, 1508970993, 2453635748, 2870763221, 3624381080, 310598401, 607225278, 1426881987, 1925078388, 2162078206, 2614888103, 3248222580, 3835390401, 4022224774, 264347078, 604807628, 770255983, 1249150122, 1555081692, 1996064986, 2554220882, 2821834349, 2952996808, 3210313671, 3336571891, 3584528711, 113926993, 338241895, 666307205, 773529912, 1294757372, 1396182291, 1695183700, 1986661051, 2177026350, 2456956037, 2730485921, 2820302411, 3259730800, 3345764771, 3516065817, 3600352804, 4094571909, 275423344, 430227734, 506948616, 659060556, 883997877, 958139571, 1322822218, 1537002063, 1747873779, 1955562222, 2024104815, 2227730452, 2361852424, 2428436474, 2756734187, 3204031479, 3329325298]
def sha0 : List Wd := [1779033703, 3144134277, 1013904242, 2773480762, 1359893119, 2600822924, 528734635, 1541459225]
theorem rot_go (x : Wd) (n : Nat) (h : 0 < n ∧ n < 32) : rotr x n = (x <<< (32 - n)) ||| (x >>> n) := by
  rw [rotr, BitVec.rotateRight_def, Nat.mod_eq_of_lt h.2, BitVec.or_comm]
theorem rot_bit (x : Wd) (r i : Nat) (hr : r < 32) (hi : i < 32) : (x.rotateRight r).getLsbD i = x.getLsbD (if i + r < 32 then i + r else i + r - 32) := by
  rw [BitVec.getLsbD_rotateRight, Nat.mod_eq_of_lt hr]
  by_cases h : i + r < 32
  · rw [if_pos h, decide_eq_true (show i < 32 - r by omega), cond_true, Nat.add_comm]
  · rw [if_neg h, decide_eq_false (show ¬ i < 32 - r by omega), cond_false, decide_eq_true hi, Bool.true_and, show i - (32 - r) = i + r - 32 by omega]
theorem rot_succ (x : Wd) (n : Nat) (h : n < 31) : rotr (rotr x n) 1 = rotr x (n + 1) := by
  unfold rotr
  apply BitVec.eq_of_getLsbD_eq
  intro i hi
  rw [rot_bit _ _ _ (by omega) hi, rot_bit _ _ _ (by omega) hi, rot_bit _ _ _ (by omega) (by split <;> omega)]
  congr 1
  repeat' split
  all_goals omega
theorem rot_one (x : Wd) : ((x.toNat / 2 + x.toNat % 2 * 2147483648 : Nat)) = (rotr x 1).toNat := by
  have h := rot_go x 1 (by omega)
  have e : (x <<< 31) &&& (x >>> 1) = 0#32 := by
    apply BitVec.eq_of_getLsbD_eq
    intro i hi
    rw [BitVec.getLsbD_and, BitVec.getLsbD_shiftLeft, BitVec.getLsbD_ushiftRight, BitVec.getLsbD_zero]
    by_cases h1 : i < 31
    · simp [h1]
    · rw [BitVec.getLsbD_of_ge x (1 + i) (by omega)]; simp
  rw [h, ← BitVec.add_eq_or_of_and_eq_zero _ _ e, BitVec.toNat_add, BitVec.toNat_shiftLeft, BitVec.toNat_ushiftRight, Nat.shiftLeft_eq, Nat.shiftRight_eq_div_pow]
  have := x.isLt
  omega
theorem rotr_zero (x : Wd) : rotr x 0 = x := by
  unfold rotr
  apply BitVec.eq_of_getLsbD_eq
  intro i hi
  rw [rot_bit _ _ _ (by omega) hi, if_pos (by omega), Nat.add_zero]
theorem shr_step (x : Wd) (i : Nat) : ((x >>> i).toNat : Int) / 2 = ((x >>> (i + 1)).toNat : Int) := by
  rw [BitVec.toNat_ushiftRight, BitVec.toNat_ushiftRight, Nat.shiftRight_succ]
  omega
theorem wAt_low {s : List UInt8} {i : Nat} (h : i < 16) : wAt s i = be32 (s.getD (4 * i) 0) (s.getD (4 * i + 1) 0) (s.getD (4 * i + 2) 0) (s.getD (4 * i + 3) 0) := by rw [wAt, dif_pos h]
theorem wAt_high {s : List UInt8} {i : Nat} (h : 16 ≤ i) : wAt s i = wAt s (i - 16) + mixS (wAt s (i - 15)) 7 18 3 true + wAt s (i - 7) + mixS (wAt s (i - 2)) 17 19 10 true := by rw [wAt, dif_neg (by omega)]
def rnd (s : List UInt8) (i : Nat) (v : List Wd) : List Wd :=
  [(v.getD 7 0 + mixS (v.getD 4 0) 6 11 25 false + ((v.getD 4 0 &&& v.getD 5 0) ^^^ (~~~(v.getD 4 0) &&& v.getD 6 0)) + shaK.getD i 0 + wAt s i) + (mixS (v.getD 0 0) 2 13 22 false + (((v.getD 0 0 &&& v.getD 1 0) ^^^ (v.getD 0 0 &&& v.getD 2 0)) ^^^ (v.getD 1 0 &&& v.getD 2 0))),
   v.getD 0 0, v.getD 1 0, v.getD 2 0,
   v.getD 3 0 + (v.getD 7 0 + mixS (v.getD 4 0) 6 11 25 false + ((v.getD 4 0 &&& v.getD 5 0) ^^^ (~~~(v.getD 4 0) &&& v.getD 6 0)) + shaK.getD i 0 + wAt s i), v.getD 4 0, v.getD 5 0, v.getD 6 0]
def rndN (s : List UInt8) (h : List Wd) : Nat → List Wd
  | 0 => h
  | n + 1 => rnd s n (rndN s h n)
theorem rndN_succ (s : List UInt8) (h : List Wd) (n : Nat) : rndN s h (n + 1) = rnd s n (rndN s h n) := rfl
theorem rndN_len (s : List UInt8) (h : List Wd) (n : Nat) (hh : h.length = 8) : (rndN s h n).length = 8 := by
  cases n with
  | zero => exact hh
  | succ n => rfl
def addN (h v : List Wd) (n : Nat) : List Wd := List.zipWith (· + ·) (h.take n) (v.take n) ++ h.drop n
theorem addN_len (h v : List Wd) (n : Nat) (hh : h.length = 8) (hv : v.length = 8) (hn : n ≤ 8) : (addN h v n).length = 8 := by simp [addN, hh, hv]; omega
def shaStep (h : List Wd) (s : List UInt8) : List Wd := addN h (rndN s h 64) 8
theorem shaStep_len {h : List Wd} {s : List UInt8} (hh : h.length = 8) : (shaStep h s).length = 8 := addN_len h _ 8 hh (rndN_len s h 64 hh) (by omega)
def leR (m w : Nat) : List UInt8 := (List.range w).map fun i => UInt8.ofNat (m / 256 ^ i)
theorem leR_len (m w : Nat) : (leR m w).length = w := by simp [leR]
def padN (n : Nat) : Nat := (119 - n % 64) % 64
def fill0 (s : List UInt8) : List UInt8 := s ++ 128 :: List.replicate (padN s.length) 0
def fillS (s : List UInt8) : List UInt8 := fill0 s ++ (leR (s.length * 8) 8).reverse
theorem fill0_len (s : List UInt8) : (fill0 s).length = s.length + 1 + padN s.length := by simp [fill0]; omega
theorem fillS_len (s : List UInt8) : (fillS s).length % 64 = 0 ∧ (fillS s).length ≤ s.length + 72 := by
  have := fill0_len s
  have h2 : (fillS s).length = (fill0 s).length + 8 := by simp [fillS, leR_len]
  rw [h2, this]
  unfold padN
  omega
theorem div_pow (m i : Nat) : m / 256 ^ i / 256 = m / 256 ^ (i + 1) := by rw [Nat.div_div_eq_div_mul, Nat.pow_succ]
theorem rep_snoc (n : Nat) : List.replicate n (0 : UInt8) ++ [0] = List.replicate (n + 1) 0 := by rw [List.replicate_succ']
def shaFold (h : List Wd) (t : List UInt8) : List Wd :=
  if t.length < 64 then h else shaFold (shaStep h (t.take 64)) (t.drop 64)
termination_by t.length
decreasing_by simp; omega
def shaH (s : List UInt8) : List Wd := shaFold sha0 (fillS s)
def outB (h : List Wd) (i : Nat) : UInt8 := UInt8.ofNat (h.getD (i / 4) 0 >>> (24 - 8 * (i % 4))).toNat
def shaB (s : List UInt8) : List UInt8 := (List.range 32).map (outB (shaH s))
theorem shaB_len (s : List UInt8) : (shaB s).length = 32 := by simp [shaB]
theorem shaFold_step (h : List Wd) {t : List UInt8} (ht : 64 ≤ t.length) : shaFold h t = shaFold (shaStep h (t.take 64)) (t.drop 64) := by rw [shaFold, if_neg (by omega)]
theorem shaFold_end {h g : List Wd} {t : List UInt8} (f : shaFold h t = g) (ht : t = []) : h = g := by rw [← f, ht, shaFold]; rfl
def beW (s : List UInt8) (a : Nat) : Nat → Nat
  | 0 => 0
  | j + 1 => 256 * beW s a j + (s.getD (a + j) 0).toNat
theorem beW_lt (s : List UInt8) (a j : Nat) (h : j ≤ 4) : beW s a j < 4294967296 := by
  have b0 := byte_lt (s.getD (a + 0) 0)
  have b1 := byte_lt (s.getD (a + 1) 0)
  have b2 := byte_lt (s.getD (a + 2) 0)
  have b3 := byte_lt (s.getD (a + 3) 0)
  match j, h with
  | 0, _ => show 0 < _; omega
  | 1, _ => show 256 * 0 + (s.getD (a + 0) 0).toNat < _; omega
  | 2, _ => show 256 * (256 * 0 + (s.getD (a + 0) 0).toNat) + (s.getD (a + 1) 0).toNat < _; omega
  | 3, _ => show 256 * (256 * (256 * 0 + (s.getD (a + 0) 0).toNat) + (s.getD (a + 1) 0).toNat) + (s.getD (a + 2) 0).toNat < _; omega
  | 4, _ => show 256 * (256 * (256 * (256 * 0 + (s.getD (a + 0) 0).toNat) + (s.getD (a + 1) 0).toNat) + (s.getD (a + 2) 0).toNat) + (s.getD (a + 3) 0).toNat < _; omega
theorem or_shift (x y : Wd) (k : Nat) (hk : k < 32) (h : y.toNat < 2 ^ k) : ((x <<< k) ||| y).toNat = (x <<< k).toNat + y.toNat := by
  have e : (x <<< k) &&& y = 0#32 := by
    apply BitVec.eq_of_getLsbD_eq
    intro i hi
    rw [BitVec.getLsbD_and, BitVec.getLsbD_shiftLeft, BitVec.getLsbD_zero]
    by_cases h1 : i < k
    · simp [h1]
    · have : y.getLsbD i = false := by
        rw [BitVec.getLsbD, Nat.testBit_lt_two_pow (Nat.lt_of_lt_of_le h (Nat.pow_le_pow_right (by omega) (by omega)))]
      simp [this]
  rw [← BitVec.add_eq_or_of_and_eq_zero _ _ e, BitVec.toNat_add, Nat.mod_eq_of_lt]
  rw [BitVec.toNat_shiftLeft, Nat.shiftLeft_eq]
  obtain ⟨m, hm⟩ : ∃ m, 2 ^ 32 = 2 ^ k * m := ⟨2 ^ (32 - k), by rw [← Nat.pow_add]; congr 1; omega⟩
  rw [hm, Nat.mul_comm x.toNat, Nat.mul_mod_mul_left]
  have hm0 : 0 < m := by rcases Nat.eq_zero_or_pos m with h0 | h0; · rw [h0] at hm; simp at hm
                         · exact h0
  have := Nat.mod_lt x.toNat hm0
  calc 2 ^ k * (x.toNat % m) + y.toNat < 2 ^ k * (x.toNat % m) + 2 ^ k := by omega
    _ = 2 ^ k * (x.toNat % m + 1) := by rw [Nat.mul_add, Nat.mul_one]
    _ ≤ 2 ^ k * m := Nat.mul_le_mul_left _ (by omega)
theorem be32_nat (a b c d : UInt8) : (be32 a b c d).toNat = 256 * (256 * (256 * (256 * 0 + a.toNat) + b.toNat) + c.toNat) + d.toNat := by
  have ha := byte_lt a
  have hb := byte_lt b
  have hc := byte_lt c
  have hd := byte_lt d
  have w : ∀ x : UInt8, (x.toBitVec.setWidth 32).toNat = x.toNat := fun x => by
    rw [BitVec.toNat_setWidth]; have := byte_lt x; exact Nat.mod_eq_of_lt (by show x.toNat < _; omega)
  have s24 : (a.toBitVec.setWidth 32 <<< 24).toNat = a.toNat * 16777216 := by rw [BitVec.toNat_shiftLeft, w, Nat.shiftLeft_eq]; omega
  have s16 : (b.toBitVec.setWidth 32 <<< 16).toNat = b.toNat * 65536 := by rw [BitVec.toNat_shiftLeft, w, Nat.shiftLeft_eq]; omega
  have s8 : (c.toBitVec.setWidth 32 <<< 8).toNat = c.toNat * 256 := by rw [BitVec.toNat_shiftLeft, w, Nat.shiftLeft_eq]; omega
  unfold be32
  rw [BitVec.or_assoc, BitVec.or_assoc]
  have e1 : ((c.toBitVec.setWidth 32 <<< 8) ||| d.toBitVec.setWidth 32).toNat = c.toNat * 256 + d.toNat := by rw [or_shift _ _ 8 (by omega) (by rw [w]; omega), s8, w]
  have e2 : ((b.toBitVec.setWidth 32 <<< 16) ||| ((c.toBitVec.setWidth 32 <<< 8) ||| d.toBitVec.setWidth 32)).toNat = b.toNat * 65536 + (c.toNat * 256 + d.toNat) := by rw [or_shift _ _ 16 (by omega) (by rw [e1]; omega), s16, e1]
  rw [or_shift _ _ 24 (by omega) (by rw [e2]; omega), s24, e2]
  omega
theorem beW_word {s : List UInt8} {i j : Nat} (hi : i < 16) (hj : j = 4) : ((beW s (4 * i) j : Nat) : Int) = ((wAt s i).toNat : Int) := by
  rw [hj, wAt_low hi, be32_nat]
  rfl
theorem wNext {s : List UInt8} {i : Nat} (h : 16 ≤ i) : (wUpto s i).getD (i - 16) 0 + ((rotr ((wUpto s i).getD (i - 15) 0) 7 ^^^ rotr ((wUpto s i).getD (i - 15) 0) 18) ^^^ ((wUpto s i).getD (i - 15) 0 >>> 3)) + (wUpto s i).getD (i - 7) 0 +
    ((rotr ((wUpto s i).getD (i - 2) 0) 17 ^^^ rotr ((wUpto s i).getD (i - 2) 0) 19) ^^^ ((wUpto s i).getD (i - 2) 0 >>> 10)) = wAt s i := by
  rw [wUpto_get (by omega), wUpto_get (by omega), wUpto_get (by omega), wUpto_get (by omega), wAt_high h]
  rfl
theorem pick_eq (e f g : Wd) : (e &&& f) ||| (~~~e &&& g) = (e &&& f) ^^^ (~~~e &&& g) := by
  apply BitVec.eq_of_getLsbD_eq
  intro i hi
  simp only [BitVec.getLsbD_or, BitVec.getLsbD_xor, BitVec.getLsbD_and, BitVec.getLsbD_not, hi, decide_true, Bool.true_and]
  cases e.getLsbD i <;> cases f.getLsbD i <;> cases g.getLsbD i <;> rfl
theorem most_eq (a b c : Wd) : ((a &&& b) ||| (a &&& c)) ||| (b &&& c) = ((a &&& b) ^^^ (a &&& c)) ^^^ (b &&& c) := by
  apply BitVec.eq_of_getLsbD_eq
  intro i hi
  simp only [BitVec.getLsbD_or, BitVec.getLsbD_xor, BitVec.getLsbD_and]
  cases a.getLsbD i <;> cases b.getLsbD i <;> cases c.getLsbD i <;> rfl
def outW (h v : List Wd) (i : Nat) : List Wd := (List.range i).map fun j => h.getD j 0 + v.getD j 0
theorem outW_len (h v : List Wd) (i : Nat) : (outW h v i).length = i := by simp [outW]
theorem outW_succ (h v : List Wd) (i : Nat) : outW h v (i + 1) = outW h v i ++ [h.getD i 0 + v.getD i 0] := by simp [outW, List.range_succ]
theorem outW_step (h : List Wd) (s : List UInt8) (hh : h.length = 8) : outW h (rndN s h 64) 8 = shaStep h s := by
  have hv := rndN_len s h 64 hh
  unfold shaStep
  generalize rndN s h 64 = v at *
  match h, v, hh, hv with
  | [a0, a1, a2, a3, a4, a5, a6, a7], [b0, b1, b2, b3, b4, b5, b6, b7], _, _ => rfl
theorem leR_succ (m i : Nat) : leR m (i + 1) = leR m i ++ [UInt8.ofNat (m / 256 ^ i)] := by simp [leR, List.range_succ]
theorem leB_rev (m i : Nat) : [UInt8.ofNat (m / 256 ^ i)] ++ (leR m i).reverse = (leR m (i + 1)).reverse := by rw [leR_succ, List.reverse_append]; rfl
theorem outB_eq (h : List Wd) (i : Nat) : UInt8.ofNat ((h.getD (i / 4) 0).toNat / 256 ^ (3 - i % 4)) = outB h i := by
  unfold outB
  rw [BitVec.toNat_ushiftRight, Nat.shiftRight_eq_div_pow, show (256 : Nat) = 2 ^ 8 from rfl, ← Nat.pow_mul, show 8 * (3 - i % 4) = 24 - 8 * (i % 4) by omega]
end Go.Proofs.Ytfnlcnnoedmfiaa.K
