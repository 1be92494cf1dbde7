import Derived.Test.YtfnlcnnoedmfiaaAPR03
/- The reference's sum is the plain one. -/
namespace Go.Proofs.Ytfnlcnnoedmfiaa.K
open Go
set_option linter.unusedVariables false
set_option linter.unusedSimpArgs false
theorem up_xor (x y : BitVec 32) : up x ^^^ up y = up (x ^^^ y) := by unfold up; exact (BitVec.setWidth_xor).symm
theorem up_and (x y : BitVec 32) : up x &&& up y = up (x &&& y) := by unfold up; exact (BitVec.setWidth_and).symm
theorem up_or (x y : BitVec 32) : up x ||| up y = up (x ||| y) := by unfold up; exact (BitVec.setWidth_or).symm
theorem dn_up (x : BitVec 32) : (up x).setWidth 32 = x := by
  apply BitVec.eq_of_toNat_eq
  rw [BitVec.toNat_setWidth, up_nat]
  exact Nat.mod_eq_of_lt x.isLt
theorem dn_add (x y : BitVec 64) : (x + y).setWidth 32 = x.setWidth 32 + y.setWidth 32 := BitVec.setWidth_add x y (by omega)
theorem low_ok (X : BitVec 64) : g_ref03_low X = some (up (X.setWidth 32)) := by
  unfold g_ref03_low
  refine congrArg some (BitVec.eq_of_toNat_eq ?_)
  rw [BitVec.toNat_umod, up_nat, BitVec.toNat_setWidth]
  rfl
theorem up_not (x : BitVec 32) : (4294967295 : BitVec 64) - up x = up (~~~x) := by
  apply BitVec.eq_of_toNat_eq
  rw [BitVec.toNat_sub, up_nat, up_nat, BitVec.toNat_not]
  have := x.isLt
  show (2 ^ 64 - x.toNat + 4294967295) % 2 ^ 64 = _
  omega
theorem idx_up (l : List Wd) (i : Nat) : idx (l.map up) (i : Int) = up (l.getD i 0) := by
  rw [idx_nat, List.getD_eq_getElem?_getD, List.getElem?_map, List.getD_eq_getElem?_getD]
  cases l[i]? <;> rfl
theorem at64 (l : List (BitVec 64)) (k : List Wd) (i : Nat) (h : i < 64) (hl : l.length = 64) (e : l = k.map up) : gO (0 ≤ (i : Int) ∧ (i : Int) < (l.length : Int)) (some (idx l (i : Int))) = some (up (k.getD i 0)) := by
  rw [gO_pos (by omega), e, idx_up]
theorem map64 : ([1116352408, 1899447441, 3049323471, 3921009573, 961987163, 1508970993, 2453635748, 2870763221, 3624381080, 310598401, 607225278, 1426881987, 1925078388, 2162078206, 2614888103, 3248222580, 3835390401, 4022224774, 264347078, 604807628, 770255983, 1249150122, 1555081692, 1996064986, 2554220882, 2821834349, 2952996808, 3210313671, 3336571891, 3584528711, 113926993, 338241895, 666307205, 773529912, 1294757372, 1396182291, 1695183700, 1986661051, 2177026350, 2456956037, 2730485921, 2820302411, 3259730800, 3345764771, 3516065817, 3600352804, 4094571909, 275423344, 430227734, 506948616, 659060556, 883997877, 958139571, 1322822218, 1537002063, 1747873779, 1955562222, 2024104815, 2227730452, 2361852424, 2428436474, 2756734187, 3204031479, 3329325298] : List (BitVec 64)) = shaK.map up := by
  unfold shaK up
  simp only [List.map_cons, List.map_nil, BitVec.reduceSetWidth, BitVec.ofNat_eq_ofNat]
theorem K_ok (i : Nat) (h : i < 64) : g_ref03_K (i : Int) = some (up (shaK.getD i 0)) := at64 _ shaK i h rfl map64
theorem Block_ok (h : List Wd) (s : List UInt8) (hh : h.length = 8) (hs : s.length = 64) : g_ref03_Block (h.map up) s = some ((shaStep h s).map up) := by
  have t6 : ∀ x, g_ref03_turn (up x) 6 = some (up (rotr x 6)) := fun x => turn_ok x 6 (by omega)
  have t7 : ∀ x, g_ref03_turn (up x) 7 = some (up (rotr x 7)) := fun x => turn_ok x 7 (by omega)
  have t18 : ∀ x, g_ref03_turn (up x) 18 = some (up (rotr x 18)) := fun x => turn_ok x 18 (by omega)
  have t17 : ∀ x, g_ref03_turn (up x) 17 = some (up (rotr x 17)) := fun x => turn_ok x 17 (by omega)
  have t19 : ∀ x, g_ref03_turn (up x) 19 = some (up (rotr x 19)) := fun x => turn_ok x 19 (by omega)
  have t11 : ∀ x, g_ref03_turn (up x) 11 = some (up (rotr x 11)) := fun x => turn_ok x 11 (by omega)
  have t25 : ∀ x, g_ref03_turn (up x) 25 = some (up (rotr x 25)) := fun x => turn_ok x 25 (by omega)
  have t2 : ∀ x, g_ref03_turn (up x) 2 = some (up (rotr x 2)) := fun x => turn_ok x 2 (by omega)
  have t13 : ∀ x, g_ref03_turn (up x) 13 = some (up (rotr x 13)) := fun x => turn_ok x 13 (by omega)
  have t22 : ∀ x, g_ref03_turn (up x) 22 = some (up (rotr x 22)) := fun x => turn_ok x 22 (by omega)
  have s3 : ∀ x, g_ref03_shift (up x) 3 = some (up (x >>> 3)) := fun x => shift_ok x 3 (by omega)
  have s10 : ∀ x, g_ref03_shift (up x) 10 = some (up (x >>> 10)) := fun x => shift_ok x 10 (by omega)
  have hwl : ∀ i, ((wUpto s i).map up).length = i := fun i => by rw [List.length_map, wUpto_len]
  have hwn : ∀ i, (wUpto s i).map up ++ [up (wAt s i)] = (wUpto s (i + 1)).map up := fun i => by rw [wUpto_succ, List.map_append]; rfl
  refine theC_eq (Comes.next (c' := .L1 ((wUpto s 0).map up) ((0 : Nat) : Int)) rfl ?_)
  refine Comes.uptoC (step := step_ref03_Block (h.map up) s) (fun i => .L1 ((wUpto s i).map up) (i : Int)) 64 ?_ ?_
  · intro i hi hn
    have hJ : Comes (step_ref03_Block (h.map up) s) (.J2 ((wUpto s (i + 1)).map up) (i : Int)) ((shaStep h s).map up) := by
      refine Comes.next ?_ hn
      simp only [step_ref03_Block]
      rw [gO_pos (by unfold inI; omega)]
      rfl
    have hl := hwl i
    by_cases h16 : i < 16
    · refine Comes.next (c' := .L3 ((wUpto s i).map up) (i : Int) (BitVec.ofNat 64 (beW s (4 * i) 0)) ((4 * i + 0 : Nat) : Int)) ?_ ?_
      · simp only [step_ref03_Block]
        rw [decide_eq_true (by omega), cond_true, decide_eq_true (by omega), cond_true, gO_pos (by unfold inI; omega)]
        rfl
      · refine Comes.upto (step := step_ref03_Block (h.map up) s) (fun j => .L3 ((wUpto s i).map up) (i : Int) (BitVec.ofNat 64 (beW s (4 * i) j)) ((4 * i + j : Nat) : Int)) 4 ?_ ?_
        · intro j hj
          have e : (256 : BitVec 64) * BitVec.ofNat 64 (beW s (4 * i) j) + BitVec.ofInt 64 ((idx s ((4 * i + j : Nat) : Int)).toNat : Int) = BitVec.ofNat 64 (beW s (4 * i) (j + 1)) := by
            apply BitVec.eq_of_toNat_eq
            have h1 := beW_lt s (4 * i) j (by omega)
            have h2 := beW_lt s (4 * i) (j + 1) (by omega)
            have h3 : beW s (4 * i) (j + 1) = 256 * beW s (4 * i) j + (s.getD (4 * i + j) 0).toNat := rfl
            have h4 : idx s ((4 * i + j : Nat) : Int) = s.getD (4 * i + j) 0 := idx_nat _ _
            have h5 := byte_lt (s.getD (4 * i + j) 0)
            rw [h4, BitVec.toNat_add, BitVec.toNat_mul, BitVec.toNat_ofNat, BitVec.toNat_ofNat, BitVec.toNat_ofInt, h3]
            show (256 * (beW s (4 * i) j % 2 ^ 64) % 2 ^ 64 + (((s.getD (4 * i + j) 0).toNat : Int) % (2 ^ 64 : Nat)).toNat) % 2 ^ 64 = _
            omega
          simp only [step_ref03_Block]
          rw [gO_pos (by unfold inI; omega), gO_pos (by unfold inI; omega), decide_eq_true (by omega), cond_true, gO_pos (by omega), gO_pos (by unfold inI; omega), e]
          rfl
        · have e : BitVec.ofNat 64 (beW s (4 * i) 4) = up (wAt s i) := by
            apply BitVec.eq_of_toNat_eq
            have h1 := beW_word (s := s) h16 (rfl : 4 = 4)
            have h2 := beW_lt s (4 * i) 4 (by omega)
            rw [up_nat, BitVec.toNat_ofNat]
            omega
          refine Comes.next ?_ hJ
          simp only [step_ref03_Block]
          rw [gO_pos (by unfold inI; omega), gO_pos (by unfold inI; omega), decide_eq_false (by omega), cond_false, gO_pos (by rw [hl]; simp only [List.length_singleton]; omega), e, hwn]
    · have d16 : (i : Int) - 16 = ((i - 16 : Nat) : Int) := by omega
      have d15 : (i : Int) - 15 = ((i - 15 : Nat) : Int) := by omega
      have d7 : (i : Int) - 7 = ((i - 7 : Nat) : Int) := by omega
      have d2 : (i : Int) - 2 = ((i - 2 : Nat) : Int) := by omega
      refine Comes.next ?_ hJ
      simp only [step_ref03_Block]
      rw [decide_eq_true (by omega), cond_true, decide_eq_false (by omega), cond_false, d16, d15, d7, d2, gO_pos (by unfold inI; omega), gO_pos (by omega), gO_pos (by unfold inI; omega), gO_pos (by omega)]
      simp only [idx_up, t7, t18, s3, t17, t19, s10, Option.bind_some]
      rw [gO_pos (by unfold inI; omega), gO_pos (by omega), gO_pos (by unfold inI; omega), gO_pos (by omega)]
      simp only [up_xor, low_ok, dn_add, dn_up, Option.bind_some]
      rw [wNext (by omega), gO_pos (by rw [hl]; simp only [List.length_singleton]; omega), hwn]
  · refine Comes.next (c' := .L4 ((wUpto s 64).map up) ((rndN s h 0).map up) ((0 : Nat) : Int)) ?_ ?_
    · simp only [step_ref03_Block]
      rw [decide_eq_false (by omega), cond_false, gO_pos (by simp only [List.length_nil, List.length_map]; omega)]
      rfl
    · refine Comes.upto (step := step_ref03_Block (h.map up) s) (fun i => .L4 ((wUpto s 64).map up) ((rndN s h i).map up) (i : Int)) 64 ?_ ?_
      · intro i hi
        have hv : ((rndN s h i).map up).length = 8 := by rw [List.length_map, rndN_len s h i hh]
        have hl := hwl 64
        have i0 : ∀ l : List Wd, idx (l.map up) (0 : Int) = up (l.getD 0 0) := fun l => idx_up l 0
        have i1 : ∀ l : List Wd, idx (l.map up) (1 : Int) = up (l.getD 1 0) := fun l => idx_up l 1
        have i2 : ∀ l : List Wd, idx (l.map up) (2 : Int) = up (l.getD 2 0) := fun l => idx_up l 2
        have i3 : ∀ l : List Wd, idx (l.map up) (3 : Int) = up (l.getD 3 0) := fun l => idx_up l 3
        have i4 : ∀ l : List Wd, idx (l.map up) (4 : Int) = up (l.getD 4 0) := fun l => idx_up l 4
        have i5 : ∀ l : List Wd, idx (l.map up) (5 : Int) = up (l.getD 5 0) := fun l => idx_up l 5
        have i6 : ∀ l : List Wd, idx (l.map up) (6 : Int) = up (l.getD 6 0) := fun l => idx_up l 6
        have i7 : ∀ l : List Wd, idx (l.map up) (7 : Int) = up (l.getD 7 0) := fun l => idx_up l 7
        simp only [step_ref03_Block, hv, hl]
        rw [decide_eq_true (by omega), cond_true]
        iterate 9 rw [gO_pos (by omega)]
        simp only [i0, i1, i2, i3, i4, i5, i6, i7, t6, t11, t25, K_ok i hi, Option.bind_some]
        rw [gO_pos (by omega)]
        simp only [up_not, idx_up, wUpto_get hi, up_xor, up_and, up_or]
        simp only [low_ok]
        simp only [dn_add, dn_up]
        rw [Option.bind_some, t2, Option.bind_some, t13, Option.bind_some, t22, Option.bind_some, up_xor, up_xor, Option.bind_some, Option.bind_some]
        iterate 4 rw [gO_pos (by omega)]
        rw [Option.bind_some]
        simp only [dn_up]
        iterate 3 rw [gO_pos (by omega)]
        rw [gO_pos (by unfold inI; omega), pick_eq, most_eq, rndN_succ]
        rfl
      · refine Comes.next (c' := .L5 ((rndN s h 64).map up) ((outW h (rndN s h 64) 0).map up) ((0 : Nat) : Int)) ?_ ?_
        · simp only [step_ref03_Block]
          rw [decide_eq_false (by omega), cond_false]
          rfl
        · refine Comes.upto (step := step_ref03_Block (h.map up) s) (fun i => .L5 ((rndN s h 64).map up) ((outW h (rndN s h 64) i).map up) (i : Int)) 8 ?_ ?_
          · intro i hi
            have hv : ((rndN s h 64).map up).length = 8 := by rw [List.length_map, rndN_len s h 64 hh]
            have ho : ((outW h (rndN s h 64) i).map up).length = i := by rw [List.length_map, outW_len]
            simp only [step_ref03_Block, hv, ho, List.length_map, hh, idx_up, low_ok, dn_add, dn_up]
            rw [decide_eq_true (by omega), cond_true, gO_pos (by omega), gO_pos (by omega), Option.bind_some, gO_pos (by simp only [List.length_singleton]; omega), gO_pos (by unfold inI; omega), outW_succ, List.map_append]
            rfl
          · refine Comes.stop ?_
            simp only [step_ref03_Block]
            rw [decide_eq_false (by omega), cond_false, outW_step h s hh]
end Go.Proofs.Ytfnlcnnoedmfiaa.K
