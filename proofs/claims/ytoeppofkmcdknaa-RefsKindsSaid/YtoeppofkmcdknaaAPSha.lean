/- Sums: plain laws, with no program in sight. -/
import Derived.Test.YtoeppofkmcdknaaAPBase
namespace Go.Proofs.Ytoeppofkmcdknaa.K
open Go
theorem drop_getDS {l : List UInt8} {i : Nat} (h : i < l.length) : l.drop i = l.getD i 0 :: l.drop (i + 1) := by
  rw [List.drop_eq_getElem_cons h, List.getD_eq_getElem?_getD, List.getElem?_eq_getElem h]
  rfl
def rotr (x : Wd) (n : Nat) : Wd := x.rotateRight n
def be32 (a b c d : UInt8) : Wd := (((a.toBitVec.setWidth 32 <<< 24) ||| (b.toBitVec.setWidth 32 <<< 16)) ||| (c.toBitVec.setWidth 32 <<< 8)) ||| d.toBitVec.setWidth 32
def mixS (x : Wd) (a b c : Nat) (shift : Bool) : Wd := if shift then (rotr x a ^^^ rotr x b) ^^^ (x >>> c) else (rotr x a ^^^ rotr x b) ^^^ rotr x c
def wAt (s : List UInt8) (i : Nat) : Wd :=
  if h : i < 16 then be32 (s.getD (4 * i) 0) (s.getD (4 * i + 1) 0) (s.getD (4 * i + 2) 0) (s.getD (4 * i + 3) 0)
  else wAt s (i - 16) + mixS (wAt s (i - 15)) 7 18 3 true + wAt s (i - 7) + mixS (wAt s (i - 2)) 17 19 10 true
termination_by i
def wUpto (s : List UInt8) (n : Nat) : List Wd := (List.range n).map (wAt s)
theorem wUpto_len (s : List UInt8) (n : Nat) : (wUpto s n).length = n := by simp [wUpto]
theorem wUpto_get {s : List UInt8} {n i : Nat} (h : i < n) : (wUpto s n).getD i 0 = wAt s i := by
  rw [wUpto, List.getD_eq_getElem?_getD, List.getElem?_map, List.getElem?_range h]
  rfl
theorem wUpto_succ (s : List UInt8) (n : Nat) : wUpto s (n + 1) = wUpto s n ++ [wAt s n] := by simp [wUpto, List.range_succ]
def wArr (s : List UInt8) (n : Nat) : List Wd := wUpto s n ++ List.replicate (64 - n) 0
theorem wArr_len {s : List UInt8} {n : Nat} (h : n ≤ 64) : (wArr s n).length = 64 := by simp [wArr, wUpto_len]; omega
theorem wArr_get {s : List UInt8} {n i : Nat} (h : i < n) : (wArr s n).getD i 0 = wAt s i := by
  rw [wArr, List.getD_eq_getElem?_getD, List.getElem?_append_left (by rw [wUpto_len]; exact h), ← List.getD_eq_getElem?_getD, wUpto_get h]
theorem wArr_set {s : List UInt8} {n : Nat} (h : n < 64) : (wArr s n).set n (wAt s n) = wArr s (n + 1) := by
  rw [wArr, wArr, wUpto_succ, List.set_append_right _ _ (by rw [wUpto_len]; exact Nat.le_refl _), wUpto_len, Nat.sub_self, List.append_assoc]
  congr 1
  rw [show 64 - n = (64 - (n + 1)) + 1 by omega, List.replicate_succ]
  rfl
def shaK : List Wd := [1116352408, 1899447441, 3049323471, 3921009573, 961987163, 1508970993, 2453635748, 2870763221, 3624381080, 310598401, 607225278, 1426881987, 1925078388, 2162078206, 2614888103, 3248222580, 3835390401, 4022224774, 264347078, 604807628, 770255983, 1249150122, 1555081692, 1996064986, 2554220882, 2821834349, 2952996808, 3210313671, 3336571891, 3584528711, 113926993, 338241895, 666307205, 773529912, 1294757372, 1396182291, 1695183700, 1986661051, 2177026350, 2456956037, 2730485921, 2820302411, 3259730800, 3345764771, 3516065817, 3600352804, 4094571909, 275423344, 430227734, 506948616, 659060556, 883997877, 958139571, 1322822218, 1537002063, 1747873779, 1955562222, 2024104815, 2227730452, 2361852424, 2428436474, 2756734187, 3204031479, 3329325298]
def sha0 : List Wd := [1779033703, 3144134277, 1013904242, 2773480762, 1359893119, 2600822924, 528734635, 1541459225]
theorem rot_go (x : Wd) (n : Nat) (h : 0 < n ∧ n < 32) : rotr x n = (x <<< (32 - n)) ||| (x >>> n) := by
  rw [rotr, BitVec.rotateRight_def, Nat.mod_eq_of_lt h.2, BitVec.or_comm]
theorem wArr_zero (s : List UInt8) : List.replicate 64 0 = wArr s 0 := rfl
theorem wAt_low {s : List UInt8} {i : Nat} (h : i < 16) : wAt s i = be32 (s.getD (4 * i) 0) (s.getD (4 * i + 1) 0) (s.getD (4 * i + 2) 0) (s.getD (4 * i + 3) 0) := by rw [wAt, dif_pos h]
theorem wAt_high {s : List UInt8} {i : Nat} (h : 16 ≤ i) : wAt s i = wAt s (i - 16) + mixS (wAt s (i - 15)) 7 18 3 true + wAt s (i - 7) + mixS (wAt s (i - 2)) 17 19 10 true := by rw [wAt, dif_neg (by omega)]
theorem wArr_full (s : List UInt8) : wArr s 64 = wUpto s 64 := by simp [wArr]
def rnd (s : List UInt8) (i : Nat) (v : List Wd) : List Wd :=
  [(v.getD 7 0 + mixS (v.getD 4 0) 6 11 25 false + ((v.getD 4 0 &&& v.getD 5 0) ^^^ (~~~(v.getD 4 0) &&& v.getD 6 0)) + shaK.getD i 0 + wAt s i) + (mixS (v.getD 0 0) 2 13 22 false + (((v.getD 0 0 &&& v.getD 1 0) ^^^ (v.getD 0 0 &&& v.getD 2 0)) ^^^ (v.getD 1 0 &&& v.getD 2 0))),
   v.getD 0 0, v.getD 1 0, v.getD 2 0,
   v.getD 3 0 + (v.getD 7 0 + mixS (v.getD 4 0) 6 11 25 false + ((v.getD 4 0 &&& v.getD 5 0) ^^^ (~~~(v.getD 4 0) &&& v.getD 6 0)) + shaK.getD i 0 + wAt s i), v.getD 4 0, v.getD 5 0, v.getD 6 0]
def rndN (s : List UInt8) (h : List Wd) : Nat → List Wd
  | 0 => h
  | n + 1 => rnd s n (rndN s h n)
theorem rndN_succ (s : List UInt8) (h : List Wd) (n : Nat) : rndN s h (n + 1) = rnd s n (rndN s h n) := rfl
theorem rndN_len (s : List UInt8) (h : List Wd) (n : Nat) (hh : h.length = 8) : (rndN s h n).length = 8 := by
  cases n with
  | zero => exact hh
  | succ n => rfl
def addN (h v : List Wd) (n : Nat) : List Wd := List.zipWith (· + ·) (h.take n) (v.take n) ++ h.drop n
theorem addN_zero (h v : List Wd) : addN h v 0 = h := by simp [addN]
theorem addN_len (h v : List Wd) (n : Nat) (hh : h.length = 8) (hv : v.length = 8) (hn : n ≤ 8) : (addN h v n).length = 8 := by simp [addN, hh, hv]; omega
theorem addN_get {h v : List Wd} {i : Nat} (hi : i < h.length) (hv : h.length = v.length) : (addN h v i).getD i 0 = h.getD i 0 := by
  rw [addN, List.getD_eq_getElem?_getD, List.getElem?_append_right (by simp; omega), List.getD_eq_getElem?_getD]
  congr 1
  rw [List.getElem?_drop]
  congr 1
  simp
  omega
theorem addN_set {h v : List Wd} {i : Nat} (hi : i < h.length) (hv : h.length = v.length) : (addN h v i).set i ((addN h v i).getD i 0 + v.getD i 0) = addN h v (i + 1) := by
  rw [addN_get hi hv, addN, addN, List.set_append_right _ _ (by simp; omega)]
  have e : (List.zipWith (· + ·) (h.take i) (v.take i)).length = i := by simp; omega
  have e1 : h.drop i = h.getD i 0 :: h.drop (i + 1) := by
    rw [List.drop_eq_getElem_cons hi, List.getD_eq_getElem?_getD, List.getElem?_eq_getElem hi]; rfl
  have e2 : h.take (i + 1) = h.take i ++ [h.getD i 0] := by
    rw [List.take_add_one, List.getD_eq_getElem?_getD, List.getElem?_eq_getElem hi]; rfl
  have e3 : v.take (i + 1) = v.take i ++ [v.getD i 0] := by
    rw [List.take_add_one, List.getD_eq_getElem?_getD, List.getElem?_eq_getElem (by omega)]; rfl
  rw [e, Nat.sub_self, e1, List.set_cons_zero, e2, e3, List.zipWith_append (by simp; omega)]
  simp
def shaStep (h : List Wd) (s : List UInt8) : List Wd := addN h (rndN s h 64) 8
def leR (m w : Nat) : List UInt8 := (List.range w).map fun i => UInt8.ofNat (m / 256 ^ i)
theorem leR_len (m w : Nat) : (leR m w).length = w := by simp [leR]
def padN (n : Nat) : Nat := (119 - n % 64) % 64
def fill0 (s : List UInt8) : List UInt8 := s ++ 128 :: List.replicate (padN s.length) 0
def fillS (s : List UInt8) : List UInt8 := fill0 s ++ (leR (s.length * 8) 8).reverse
theorem fill0_len (s : List UInt8) : (fill0 s).length = s.length + 1 + padN s.length := by simp [fill0]; omega
theorem fillS_len (s : List UInt8) : (fillS s).length % 64 = 0 ∧ (fillS s).length ≤ s.length + 72 := by
  have := fill0_len s
  have h2 : (fillS s).length = (fill0 s).length + 8 := by simp [fillS, leR_len]
  rw [h2, this]
  unfold padN
  omega
theorem rep_snoc (n : Nat) : List.replicate n (0 : UInt8) ++ [0] = List.replicate (n + 1) 0 := by rw [List.replicate_succ']
theorem drop_rev {l : List UInt8} {j : Nat} (h : j < l.length) : (l.drop (j + 1)).reverse ++ [l.getD j 0] = (l.drop j).reverse := by
  rw [drop_getDS h, List.reverse_cons]
def shaFold (h : List Wd) (t : List UInt8) : List Wd :=
  if t.length < 64 then h else shaFold (shaStep h (t.take 64)) (t.drop 64)
termination_by t.length
decreasing_by simp; omega
def shaH (s : List UInt8) : List Wd := shaFold sha0 (fillS s)
def outB (h : List Wd) (i : Nat) : UInt8 := UInt8.ofNat (h.getD (i / 4) 0 >>> (24 - 8 * (i % 4))).toNat
def shaB (s : List UInt8) : List UInt8 := (List.range 32).map (outB (shaH s))
theorem shaB_len (s : List UInt8) : (shaB s).length = 32 := by simp [shaB]
theorem shaFold_step (h : List Wd) {t : List UInt8} (ht : 64 ≤ t.length) : shaFold h t = shaFold (shaStep h (t.take 64)) (t.drop 64) := by rw [shaFold, if_neg (by omega)]
theorem shaFold_end {h g : List Wd} {t : List UInt8} (f : shaFold h t = g) (ht : t = []) : h = g := by rw [← f, ht, shaFold]; rfl
theorem leR_succ (m i : Nat) : leR m (i + 1) = leR m i ++ [UInt8.ofNat (m / 256 ^ i)] := by simp [leR, List.range_succ]
end Go.Proofs.Ytoeppofkmcdknaa.K
