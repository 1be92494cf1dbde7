/- Bytes: what the model's integer operations on them come to. -/
import Derived.Test.YtonlehebfeilmaaK23
namespace Go.Proofs.Ytonlehebfeilmaa.K
open Go Go.RowKit

theorem ofInt_u8 (a : UInt8) : BitVec.ofInt IntKind.u8.bits (a.toNat : Int) = a.toBitVec := by
  apply BitVec.eq_of_toNat_eq
  simp [IntKind.bits]

theorem u8_lt (a : UInt8) : (0 : Int) ≤ a.toNat ∧ (a.toNat : Int) ≤ 255 := by
  have : a.toNat < 256 := a.toNat_lt
  omega

theorem wrap_toNat (a : UInt8) : IntKind.u8.wrap (a.toNat : Int) = a.toNat := wrap_u8 (u8_lt a)

theorem or_u8 (a b : UInt8) : IntKind.u8.wrap ((BitVec.ofInt IntKind.u8.bits (a.toNat : Int) ||| BitVec.ofInt IntKind.u8.bits (b.toNat : Int)).toNat : Int) = (a ||| b).toNat := by
  rw [ofInt_u8, ofInt_u8]
  exact wrap_toNat (a ||| b)
theorem and_u8 (a b : UInt8) : IntKind.u8.wrap ((BitVec.ofInt IntKind.u8.bits (a.toNat : Int) &&& BitVec.ofInt IntKind.u8.bits (b.toNat : Int)).toNat : Int) = (a &&& b).toNat := by
  rw [ofInt_u8, ofInt_u8]
  exact wrap_toNat (a &&& b)
theorem and15 (a : UInt8) : IntKind.u8.wrap ((BitVec.ofInt IntKind.u8.bits (a.toNat : Int) &&& BitVec.ofInt IntKind.u8.bits (15 : Int)).toNat : Int) = (a % 16).toNat := by
  have h := and_u8 a 15
  have e : ((15 : UInt8).toNat : Int) = 15 := by decide
  rw [e] at h
  rw [h]
  have : a &&& 15 = a % 16 := by
    apply UInt8.toNat_inj.1
    rw [UInt8.toNat_and, UInt8.toNat_mod]
    exact Nat.and_two_pow_sub_one_eq_mod a.toNat 4
  rw [this]
theorem shr4 (a : UInt8) : ((a.toNat : Int)).fdiv (2 ^ (min (4 : Int).toNat IntKind.u8.bits)) = (a / 16).toNat := by
  have e : (2 : Int) ^ (min (4 : Int).toNat IntKind.u8.bits) = 16 := by decide
  rw [e, Int.fdiv_eq_ediv_of_nonneg _ (by omega), UInt8.toNat_div]
  rfl
theorem shl4 (a : UInt8) : IntKind.u8.wrap ((a.toNat : Int) * 2 ^ (min (4 : Int).toNat IntKind.u8.bits)) = (a * 16).toNat := by
  have e : (2 : Int) ^ (min (4 : Int).toNat IntKind.u8.bits) = 16 := by decide
  rw [e, IntKind.wrap_u8, UInt8.toNat_mul]
  have : (16 : UInt8).toNat = 16 := rfl
  rw [this]
  omega
theorem quo16 (a : UInt8) : IntKind.u8.wrap ((a.toNat : Int).tdiv 16) = (a / 16).toNat := by
  rw [IntWalk.u8_quo _ _ (by have := u8_lt a; omega), UInt8.toNat_div]
  rfl
theorem rem16 (a : UInt8) : (a.toNat : Int).tmod 16 = (a % 16).toNat := by
  rw [Int.tmod_eq_emod_of_nonneg (by have := u8_lt a; omega), UInt8.toNat_mod]
  rfl
theorem mul16 (a : UInt8) : IntKind.u8.wrap (16 * (a.toNat : Int)) = (16 * a).toNat := by
  rw [IntKind.wrap_u8, UInt8.toNat_mul]
  have : (16 : UInt8).toNat = 16 := rfl
  rw [this]
  omega
theorem add_u8 (a b : UInt8) : IntKind.u8.wrap ((a.toNat : Int) + (b.toNat : Int)) = (a + b).toNat := by
  rw [IntKind.wrap_u8, UInt8.toNat_add]
  omega

theorem byteD_def (b : UInt8) : (D.val (.int .u8 (b.toNat : Int))) = byteD b := rfl

theorem getD_rows {l : List (List UInt8)} {i : Nat} (h : i < l.length) : ((l.map fun p => D.slice (p.map byteD)).getD i default).cells = [.slice ((l.getD i []).map byteD)] := by
  rw [List.getD_eq_getElem?_getD, List.getD_eq_getElem?_getD, List.getElem?_map, List.getElem?_eq_getElem h]
  rfl
theorem all_rows (l : List (List UInt8)) : (∀ x ∈ l.map fun p => D.slice (p.map byteD), x.cells.length = 1) = True := by
  refine eq_true ?_
  intro x hx
  obtain ⟨b, _, rfl⟩ := List.mem_map.1 hx
  rfl
theorem take_succ_flatten {l : List (List UInt8)} {i : Nat} (h : i < l.length) : (l.take (i + 1)).flatten = (l.take i).flatten ++ l.getD i [] := by
  rw [List.take_add_one, List.flatten_append, List.getElem?_eq_getElem h, List.getD_eq_getElem?_getD, List.getElem?_eq_getElem h]
  simp
theorem flatten_take_le {l : List (List UInt8)} {i : Nat} : (l.take i).flatten.length ≤ l.flatten.length := by
  have := List.take_append_drop i l
  have h2 : (l.take i ++ l.drop i).flatten.length = l.flatten.length := by rw [this]
  rw [List.flatten_append, List.length_append] at h2
  omega
/-- The bytes of a key or a sum, out of its cells. -/
theorem drop_byte {l : List UInt8} {i : Nat} : (l.map byteD).drop i = (l.drop i).map byteD := List.map_drop.symm
theorem rng_0 : List.range 0 = [] := rfl
theorem rng_1 : List.range 1 = [0] := rfl
theorem rng_2 : List.range 2 = [0, 1] := rfl
theorem rng_3 : List.range 3 = [0, 1, 2] := rfl
theorem rng_4 : List.range 4 = [0, 1, 2, 3] := rfl
theorem rng_5 : List.range 5 = [0, 1, 2, 3, 4] := rfl
theorem rng_6 : List.range 6 = [0, 1, 2, 3, 4, 5] := rfl
theorem rng_7 : List.range 7 = [0, 1, 2, 3, 4, 5, 6] := rfl
theorem rng_8 : List.range 8 = [0, 1, 2, 3, 4, 5, 6, 7] := rfl
theorem toNat_add1 {i : Nat} : ((i : Int) + 1).toNat = i + 1 := by omega
/-- The cells of an array of bytes, as the model's table has them. -/
def u8s (l : List UInt8) : List Value := l.map fun b => .int .u8 (b.toNat : Int)
theorem u8s_one (l : List UInt8) : (u8s l).all Value.oneCell' = true := by
  simp [u8s, Value.oneCell']
theorem u8s_cellV (l : List UInt8) : (u8s l).map cellV = (l.map byteD).map .d := by
  simp [u8s, cellV, byteD]
theorem spl_bytes {a b : List UInt8} (h : a.length = b.length) : spl ((a.map byteD).map PV.d) 0 ((b.map byteD).map PV.d) = (b.map byteD).map PV.d := by
  unfold spl
  rw [List.take_zero, List.nil_append, List.drop_eq_nil_of_le (by simp; omega), List.append_nil]
theorem take_dbytes {l : List UInt8} {n : Nat} (h : l.length ≤ n) : ((l.map byteD).map PV.d).take n = (l.map byteD).map PV.d := List.take_of_length_le (by simpa using h)
theorem toDs_d : ∀ l : List D, PV.toDs (l.map .d) = some l
  | [] => rfl
  | x :: r => by simp only [List.map_cons, PV.toDs, PV.toD, toDs_d r, Option.map_some]
theorem maxLen_val : maxLen = 9223372036854775807 := rfl
theorem take_byte {l : List UInt8} {n : Nat} (h : l.length ≤ n) : (l.map byteD).take n = l.map byteD := List.take_of_length_le (by simpa using h)
theorem getD_byte' {l : List UInt8} {i : Nat} (h : i < l.length) : (l.map byteD).getD i default = .val (.int .u8 (l.getD i 0).toNat) := by
  rw [List.getD_eq_getElem?_getD, List.getD_eq_getElem?_getD, List.getElem?_map, List.getElem?_eq_getElem h]
  rfl
theorem map_append_one {l : List UInt8} {b : UInt8} : l.map byteD ++ [D.val (.int .u8 (b.toNat : Int))] = (l ++ [b]).map byteD := by simp [byteD]
theorem map_append_two {l : List UInt8} {b c : UInt8} : l.map byteD ++ [D.val (.int .u8 (b.toNat : Int)), D.val (.int .u8 (c.toNat : Int))] = (l ++ [b, c]).map byteD := by simp [byteD]
theorem map_append_row {l k : List UInt8} : l.map byteD ++ k.map byteD = (l ++ k).map byteD := by simp
theorem drop_cells {l : List UInt8} {i : Nat} (h : i < l.length) : (l.map byteD).drop i = .val (.int .u8 (l.getD i 0).toNat) :: (l.map byteD).drop (i + 1) := by
  rw [List.drop_eq_getElem_cons (by simpa using h), List.getElem_map, List.getD_eq_getElem?_getD, List.getElem?_eq_getElem h]
  rfl
theorem headD_drop {l : List UInt8} {i : Nat} (h : i < l.length) : ((l.map byteD).drop i).headD default = .val (.int .u8 (l.getD i 0).toNat) := by
  rw [drop_cells h]
  rfl
theorem drop_ne {l : List UInt8} {i : Nat} (h : i < l.length) : ((l.map byteD).drop i = []) = False := by
  rw [drop_cells h]
  simp
theorem quo2 {i : Nat} (h : i ≤ 2 ^ 62) : IntKind.i64.wrap ((i : Int).tdiv 2) = ((i / 2 : Nat) : Int) := by
  rw [IntWalk.i64_quo _ _ (by omega)]
  rfl
theorem even_or (i : Nat) : (((i : Int).tmod 2 == 0) = true ∧ i % 2 = 0) ∨ (((i : Int).tmod 2 == 0) = false ∧ i % 2 = 1) := by
  have e : (i : Int).tmod 2 = ((i % 2 : Nat) : Int) := by rw [Int.tmod_eq_emod_of_nonneg (by omega)]; rfl
  rw [e]
  rcases Nat.mod_two_eq_zero_or_one i with h | h <;> rw [h] <;> simp

/-- Only operation n touches an owned block. -/
theorem RecsOK.lone {M : List Nat} {L : List Rec} (n : Nat) (h1 : ∀ R ∈ L.take n, R.T = [] ∧ R.W = [] ∧ R.lo = R.hi) (h2 : ∀ R ∈ L.drop (n + 1), R.T = [] ∧ R.W = []) : RecsOK M L := by
  intro i j a b hij ha hb hx
  have front : ∀ (k : Nat) (R : Rec), k < n → L[k]? = some R → R.T = [] ∧ R.W = [] ∧ R.lo = R.hi := fun k R hk hR => h1 R (List.mem_of_getElem? (i := k) (by rw [List.getElem?_take, if_pos hk]; exact hR))
  have back : ∀ (k : Nat) (R : Rec), n < k → L[k]? = some R → R.T = [] ∧ R.W = [] := fun k R hk hR => h2 R (List.mem_of_getElem? (i := k - (n + 1)) (by rw [List.getElem?_drop, show n + 1 + (k - (n + 1)) = k from by omega]; exact hR))
  rcases Nat.lt_trichotomy j n with hj | hj | hj
  · have hB := front j b hj hb
    rcases hx with ⟨x, hx, _⟩ | ⟨x, _, hx⟩
    · rw [hB.1] at hx; cases hx
    · rw [hB.2.1] at hx; cases hx
  · have hA := front i a (by omega) ha
    rcases hx with ⟨x, _, hx | hx⟩ | ⟨x, hx, _⟩
    · rw [hA.2.1] at hx; cases hx
    · rw [hA.2.2] at hx; omega
    · rw [hA.1] at hx; cases hx
  · have hB := back j b hj hb
    rcases hx with ⟨x, hx, _⟩ | ⟨x, _, hx⟩
    · rw [hB.1] at hx; cases hx
    · rw [hB.2] at hx; cases hx
end Go.Proofs.Ytonlehebfeilmaa.K
