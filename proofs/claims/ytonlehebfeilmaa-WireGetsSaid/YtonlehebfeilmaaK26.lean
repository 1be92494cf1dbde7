/- Words of 32 bits, and rows and arrays of them. -/
import Derived.Test.YtonlehebfeilmaaK25
namespace Go.Proofs.Ytonlehebfeilmaa.K
open Go Go.RowKit

abbrev Wd := BitVec 32
def wD (w : Wd) : D := .val (.int .u32 (w.toNat : Int))
def vD (w : Wd) : D := .val (.int .u64 (w.toNat : Int))
def u32s (l : List Wd) : List Value := l.map fun w => .int .u32 (w.toNat : Int)
theorem wD_app (w : Wd) : wD w = .val (.int .u32 (w.toNat : Int)) := rfl
theorem vD_app (w : Wd) : vD w = .val (.int .u64 (w.toNat : Int)) := rfl
theorem u32s_one (l : List Wd) : (u32s l).all Value.oneCell' = true := by
  induction l with
  | nil => rfl
  | cons x r ih => simp [u32s, Value.oneCell']
theorem u32s_cellV (l : List Wd) : (u32s l).map cellV = (l.map wD).map .d := by
  induction l with
  | nil => rfl
  | cons x r ih =>
    simp only [u32s, List.map_cons, List.map_map] at ih ⊢
    rw [ih]
    rfl
theorem getD_wV {l : List Wd} {i : Nat} (h : i < l.length) : ((l.map wD).map PV.d).getD i .junk = .d (.val (.int .u32 ((l.getD i 0).toNat : Int))) := by
  rw [List.getD_eq_getElem?_getD, List.getD_eq_getElem?_getD, List.getElem?_map, List.getElem?_map, List.getElem?_eq_getElem h]
  rfl
theorem spl_w {l : List Wd} {i : Nat} {w : Wd} (h : i < l.length) : spl ((l.map wD).map PV.d) i [.d (.val (.int .u32 (w.toNat : Int)))] = ((l.set i w).map wD).map PV.d := by
  rw [← wD_app]
  unfold spl
  rw [List.map_set, List.map_set, List.set_eq_take_append_cons_drop]
  simp [h]
theorem spl_all {α : Type} {l c : List α} (h : l.length = c.length) : spl l 0 c = c := by
  unfold spl
  simp [h]
theorem take_wV {l : List Wd} {n : Nat} (h : l.length ≤ n) : ((l.map wD).map PV.d).take n = (l.map wD).map PV.d := List.take_of_length_le (by simpa using h)
theorem take_w {l : List Wd} {n : Nat} (h : l.length ≤ n) : (l.map wD).take n = l.map wD := List.take_of_length_le (by simpa using h)
theorem getD_vs {l : List Wd} {i : Nat} (h : i < l.length) : ((l.map vD).getD i default).cells = [.val (.int .u64 ((l.getD i 0).toNat : Int))] := by
  rw [List.getD_eq_getElem?_getD, List.getD_eq_getElem?_getD, List.getElem?_map, List.getElem?_eq_getElem h]
  rfl
theorem all_vs (l : List Wd) : (∀ x ∈ l.map vD, x.cells.length = 1) = True := by
  refine eq_true ?_
  intro x hx
  obtain ⟨b, _, rfl⟩ := List.mem_map.1 hx
  rfl
theorem wlt (w : Wd) : w.toNat < 4294967296 := w.isLt
theorem map_append_v {l : List Wd} {w : Wd} : l.map vD ++ [D.val (.int .u64 (w.toNat : Int))] = (l ++ [w]).map vD := by simp [vD]
theorem wrap_u32 {n : Int} (h : 0 ≤ n ∧ n ≤ 4294967295) : IntKind.u32.wrap n = n := by
  rw [IntKind.wrap_u32]
  omega
theorem wrap32 (n : Int) : IntKind.u32.wrap n = ((BitVec.ofInt 32 n).toNat : Int) := by
  rw [IntKind.wrap_u32, BitVec.toNat_ofInt]
  omega
theorem ofInt_w (a : Wd) : BitVec.ofInt 32 (a.toNat : Int) = a := by
  apply BitVec.eq_of_toNat_eq
  rw [BitVec.toNat_ofInt]
  have := a.isLt
  omega
theorem ofInt_64 (a : Wd) : BitVec.ofInt 64 (a.toNat : Int) = a.setWidth 64 := by
  apply BitVec.eq_of_toNat_eq
  rw [BitVec.toNat_ofInt, BitVec.toNat_setWidth]
  have := a.isLt
  omega
theorem xor_inst (a b : Wd) : @HXor.hXor (BitVec 32) (BitVec 32) (BitVec 32) (@instHXorOfXorOp (BitVec IntKind.u32.bits) (@BitVec.instXorOp IntKind.u32.bits)) a b = a ^^^ b := rfl
theorem and_inst (a b : Wd) : @HAnd.hAnd (BitVec 32) (BitVec 32) (BitVec 32) (@instHAndOfAndOp (BitVec IntKind.u32.bits) (@BitVec.instAndOp IntKind.u32.bits)) a b = a &&& b := rfl
theorem or_inst (a b : Wd) : @HOr.hOr (BitVec 32) (BitVec 32) (BitVec 32) (@instHOrOfOrOp (BitVec IntKind.u32.bits) (@BitVec.instOrOp IntKind.u32.bits)) a b = a ||| b := rfl
theorem xor_i64 (a b : Wd) : (@BitVec.toNat 64 (@HXor.hXor (BitVec 64) (BitVec 64) (BitVec 64) (@instHXorOfXorOp (BitVec IntKind.u64.bits) (@BitVec.instXorOp IntKind.u64.bits)) (a.setWidth 64) (b.setWidth 64))) = (a ^^^ b).toNat := by
  show (a.setWidth 64 ^^^ b.setWidth 64).toNat = _
  rw [← BitVec.setWidth_xor, BitVec.toNat_setWidth, Nat.mod_eq_of_lt (by have := (a ^^^ b).isLt; omega)]
theorem and_i64 (a b : Wd) : (@BitVec.toNat 64 (@HAnd.hAnd (BitVec 64) (BitVec 64) (BitVec 64) (@instHAndOfAndOp (BitVec IntKind.u64.bits) (@BitVec.instAndOp IntKind.u64.bits)) (a.setWidth 64) (b.setWidth 64))) = (a &&& b).toNat := by
  show (a.setWidth 64 &&& b.setWidth 64).toNat = _
  rw [← BitVec.setWidth_and, BitVec.toNat_setWidth, Nat.mod_eq_of_lt (by have := (a &&& b).isLt; omega)]
theorem or_i64 (a b : Wd) : (@BitVec.toNat 64 (@HOr.hOr (BitVec 64) (BitVec 64) (BitVec 64) (@instHOrOfOrOp (BitVec IntKind.u64.bits) (@BitVec.instOrOp IntKind.u64.bits)) (a.setWidth 64) (b.setWidth 64))) = (a ||| b).toNat := by
  show (a.setWidth 64 ||| b.setWidth 64).toNat = _
  rw [← BitVec.setWidth_or, BitVec.toNat_setWidth, Nat.mod_eq_of_lt (by have := (a ||| b).isLt; omega)]
theorem add_w (a b : Wd) : IntKind.u32.wrap ((a.toNat : Int) + (b.toNat : Int)) = ((a + b).toNat : Int) := by
  rw [IntKind.wrap_u32, BitVec.toNat_add]
  omega
theorem shl_w (a : Wd) {k : Nat} (h : k ≤ 32) : IntKind.u32.wrap ((a.toNat : Int) * 2 ^ (min k 32)) = ((a <<< k).toNat : Int) := by
  rw [IntKind.wrap_u32, BitVec.toNat_shiftLeft, Nat.shiftLeft_eq, Nat.min_eq_left h]
  have : ((a.toNat : Int) * 2 ^ k) = ((a.toNat * 2 ^ k : Nat) : Int) := by rw [Int.natCast_mul, Int.natCast_pow]; rfl
  rw [this]
  omega
theorem shr_w (a : Wd) {k : Nat} (h : k ≤ 32) : ((a.toNat : Int)).fdiv (2 ^ (min k 32)) = ((a >>> k).toNat : Int) := by
  rw [BitVec.toNat_ushiftRight, Nat.shiftRight_eq_div_pow, Nat.min_eq_left h, Int.fdiv_eq_ediv_of_nonneg _ (by exact Int.pow_nonneg (by omega)), Int.natCast_ediv, Int.natCast_pow]
  rfl
theorem byte_w (b : UInt8) : IntKind.u32.wrap (b.toNat : Int) = ((b.toBitVec.setWidth 32).toNat : Int) := by
  rw [IntKind.wrap_u32, BitVec.toNat_setWidth]
  show _ = ((b.toNat % 2 ^ 32 : Nat) : Int)
  omega
theorem not_w (a : Wd) : ((@BitVec.toNat 32 (@HXor.hXor (BitVec 32) (BitVec 32) (BitVec 32) (@instHXorOfXorOp (BitVec IntKind.u32.bits) (@BitVec.instXorOp IntKind.u32.bits)) (BitVec.ofInt 32 IntKind.u32.max) a)) : Nat) = (~~~a).toNat := by
  have : BitVec.ofInt 32 IntKind.u32.max = BitVec.allOnes 32 := by decide
  rw [this, xor_inst, BitVec.allOnes_xor]
theorem u32_max : IntKind.u32.max = 4294967295 := by decide
def lastOK (m : Nat) : List Rec → Nat → Bool
  | [], _ => true
  | R :: r, i => (R.T.isEmpty || m.testBit i) && lastOK m r (i + 1)
theorem lastOK_get {m : Nat} : ∀ {L : List Rec} {k i : Nat} {R : Rec}, lastOK m L k = true → L[i]? = some R → R.T ≠ [] → m.testBit (k + i) = true
  | R' :: r, k, 0, R, h, e, hT => by
    simp only [List.getElem?_cons_zero, Option.some.injEq] at e
    subst e
    simp only [lastOK, Bool.and_eq_true, Bool.or_eq_true, List.isEmpty_iff] at h
    exact h.1.resolve_left hT
  | R' :: r, k, i + 1, R, h, e, hT => by
    simp only [List.getElem?_cons_succ] at e
    simp only [lastOK, Bool.and_eq_true] at h
    have := lastOK_get h.2 e hT
    rwa [show k + 1 + i = k + (i + 1) by omega] at this
  | [], _, _, _, _, e, _ => by simp at e
/-- One operation writes, behind all that touch what it writes. -/
theorem RecsOK.last {M : List Nat} {L : List Rec} (n : Nat) (h1 : ∀ R ∈ L.take n, R.W = [] ∧ R.lo = R.hi) (h2 : ∀ R ∈ L.drop (n + 1), R.T = [] ∧ R.W = []) (h3 : lastOK (M.getD n 0) (L.take n) 0 = true) : RecsOK M L := by
  intro i j a b hij ha hb hx
  have front : ∀ (k : Nat) (R : Rec), k < n → L[k]? = some R → R.W = [] ∧ R.lo = R.hi := fun k R hk hR => h1 R (List.mem_of_getElem? (i := k) (by rw [List.getElem?_take, if_pos hk]; exact hR))
  have back : ∀ (k : Nat) (R : Rec), n < k → L[k]? = some R → R.T = [] ∧ R.W = [] := fun k R hk hR => h2 R (List.mem_of_getElem? (i := k - (n + 1)) (by rw [List.getElem?_drop, show n + 1 + (k - (n + 1)) = k from by omega]; exact hR))
  rcases Nat.lt_trichotomy j n with hj | hj | hj
  · have hB := front j b hj hb
    have hA := front i a (by omega) ha
    rcases hx with ⟨x, _, hx | hx⟩ | ⟨x, _, hx⟩
    · rw [hA.1] at hx; cases hx
    · omega
    · rw [hB.1] at hx; cases hx
  · subst hj
    have hA := front i a hij ha
    rcases hx with ⟨x, _, hx | hx⟩ | ⟨x, hx, _⟩
    · rw [hA.1] at hx; cases hx
    · omega
    · have := lastOK_get h3 (i := i) (R := a) (by rw [List.getElem?_take, if_pos hij]; exact ha) (by intro e; rw [e] at hx; cases hx)
      simpa using this
  · have hB := back j b hj hb
    rcases hx with ⟨x, hx, _⟩ | ⟨x, _, hx⟩
    · rw [hB.1] at hx; cases hx
    · rw [hB.2] at hx; cases hx
attribute [go_sem] Nat.zero_add u32s_one u32s_cellV getD_wV spl_w spl_all take_wV take_w getD_vs all_vs map_append_v wrap_u32 ofInt_w ofInt_64 xor_inst and_inst or_inst xor_i64 and_i64 or_i64 add_w shl_w shr_w byte_w not_w
end Go.Proofs.Ytonlehebfeilmaa.K
