/- Arrays; further operations on whole numbers; tests against nil. -/
import Derived.Test.YtonlehebfeilmaaK32
namespace Go.Proofs.Ytonlehebfeilmaa.K
open Go Go.RowKit

variable {P : Program} {N b : Nat} {ops : Array Oper} {o : Oper} {r : List Oper} {α : Type} {n : Nat} {en : α → D}

abbrev Arr (n : Nat) (α : Type) := {l : List α // l.length = n}
def eA (en : α → D) (a : Arr n α) : D := .agg (a.1.map en)
def Arr.rep (n : Nat) (x : α) : Arr n α := ⟨List.replicate n x, by simp⟩
instance instInhArr [Inhabited α] : Inhabited (Arr n α) := ⟨Arr.rep n default⟩
def Arr.put (a : Arr n α) (i : Int) (x : α) : Arr n α := ⟨a.1.set i.toNat x, by rw [List.length_set]; exact a.2⟩
theorem lay_A : Lay (eA en : Arr n α → D) (fun a => a.1.map en) n := ⟨fun _ => rfl, fun a => by simp [a.2]⟩

/-! ### Cells that begin with an array's -/
def Pre (l : List D) (en : α → D) (a : Arr n α) : Prop := ∃ rest, l = a.1.map en ++ rest
theorem Pre.all (a : Arr n α) : Pre (a.1.map en) en a := ⟨[], by simp⟩
theorem ld_arr [Inhabited α] {l : List D} {a : Arr n α} {i : Int} {m : Nat} (hp : Pre l en a) (h : 0 ≤ i ∧ i < (n : Int)) : LdC false m (l.drop (i.toNat * 1)) (en (idx a.1 i)) := by
  obtain ⟨rest, rfl⟩ := hp
  have hi : i.toNat < a.1.length := by rw [a.2]; omega
  rw [Nat.mul_one, List.drop_append_of_le_length (by simpa using Nat.le_of_lt hi), List.drop_eq_getElem_cons (by simpa using hi)]
  refine ⟨by simp, ?_⟩
  simp [idx, List.getD_eq_getElem?_getD, List.getElem?_eq_getElem hi]
theorem sub_flat {l : List D} (h : ∀ x ∈ l, x.flat = true) : ∀ x ∈ l, x.flat = true := h

section
variable {S : Nat → PV} {H : HM} {nx : Nat} {df : List (Nat × List PV)} {frz : List Nat} {k : PV → HM → Nat → List Nat → List Nat → Prop}
theorem pre_sub {l : List D} {a : Arr n α} (hp : Pre l en a) {lo hi : Int} (h : 0 ≤ lo ∧ lo ≤ hi ∧ hi ≤ (n : Int)) : (l.drop lo.toNat).take (hi - lo).toNat = (sub a.1 lo hi).map en := by
  obtain ⟨rest, rfl⟩ := hp
  unfold sub
  have h1 : lo.toNat ≤ (a.1.map en).length := by rw [List.length_map, a.2]; omega
  rw [List.drop_append_of_le_length h1, List.take_append_of_le_length (by rw [List.length_drop, List.length_map, a.2]; omega), List.map_take, List.map_drop]
theorem sf_subA {t e : TypeId} {x : Operand} {lo hi : Operand} {l : List D} {a : Arr n α} {p q : Int} {ag : Bool} {kd kd' : IntKind} (ho : o.op = .slice t x (some lo) (some hi) none) (hu : P.underlying t = some (.array n e)) (ht : arrA P t = some (n, 1, ag)) (hp : Pre l en a) (hf : ∀ x ∈ l, x.flat = true) (hx : evP S x = .d (.cptr l))
    (hl : evP S lo = .d (.val (.int kd p))) (hh : evP S hi = .d (.val (.int kd' q))) (h : 0 ≤ p ∧ p ≤ q ∧ q ≤ (n : Int)) (hk : k (.d (.slice ((sub a.1 p q).map en))) H nx [] []) : stepF P frz o ⟨S, H, nx, df⟩ k := by
  unfold stepF; rw [ho]
  have hn : n ≤ l.length := by obtain ⟨rest, rfl⟩ := hp; simp [a.2]
  simp only [pureF, slcF, hu, ht, hx, Option.map_some, Option.map_none, bnd, hl, hh, Option.isSome_some, if_true, pre_sub hp h]
  exact ⟨⟨h, hn, hf⟩, hk⟩
/-- The whole array, or its end, as a row. -/
theorem sf_subA0 {t e : TypeId} {x : Operand} {l : List D} {a : Arr n α} {ag : Bool} (ho : o.op = .slice t x none none none) (hu : P.underlying t = some (.array n e)) (ht : arrA P t = some (n, 1, ag)) (hp : Pre l en a) (hf : ∀ x ∈ l, x.flat = true) (hx : evP S x = .d (.cptr l))
    (hk : k (.full (a.1.map en)) H nx [] []) : stepF P frz o ⟨S, H, nx, df⟩ k := by
  unfold stepF; rw [ho]
  have hn : n ≤ l.length := by obtain ⟨rest, rfl⟩ := hp; simp [a.2]
  have e := pre_sub hp (lo := 0) (hi := (n : Int)) (by omega)
  simp only [pureF, slcF, hu, ht, hx, Option.map_none, bnd, Option.isSome_none, Bool.false_eq_true, if_false]
  refine ⟨⟨⟨Int.le_refl _, Int.natCast_nonneg _, Int.le_refl _⟩, hn, hf⟩, ?_⟩
  rw [e]
  have : sub a.1 0 (n : Int) = a.1 := by
    unfold sub
    rw [List.take_of_length_le (by rw [List.length_drop, a.2]; omega)]; rfl
  rw [this]; exact hk
theorem sf_subAhi {t e : TypeId} {x hi : Operand} {l : List D} {a : Arr n α} {q : Int} {ag : Bool} {kd : IntKind} (ho : o.op = .slice t x none (some hi) none) (hu : P.underlying t = some (.array n e)) (ht : arrA P t = some (n, 1, ag)) (hp : Pre l en a) (hf : ∀ x ∈ l, x.flat = true) (hx : evP S x = .d (.cptr l))
    (hh : evP S hi = .d (.val (.int kd q))) (h : 0 ≤ (0 : Int) ∧ 0 ≤ q ∧ q ≤ (n : Int)) (hk : k (.d (.slice ((sub a.1 0 q).map en))) H nx [] []) : stepF P frz o ⟨S, H, nx, df⟩ k := by
  unfold stepF; rw [ho]
  have hn : n ≤ l.length := by obtain ⟨rest, rfl⟩ := hp; simp [a.2]
  have e := pre_sub hp h
  simp only [pureF, slcF, hu, ht, hx, Option.map_some, Option.map_none, bnd, hh, Option.isSome_some, if_true, e]
  exact ⟨⟨h, hn, hf⟩, hk⟩

/-! ### Arrays in variables -/
theorem flat_maps (l : List α) : ((l.map en).map PV.d) = l.map fun x => .d (en x) := by simp
theorem ldv_arr [Inhabited α] {a : Arr n α} {i : Int} (h : 0 ≤ i ∧ i < (n : Int)) : LdV false 1 (0 + i.toNat * 1) ((a.1.map en).map .d) (.d (en (idx a.1 i))) := by
  have hi : i.toNat < a.1.length := by rw [a.2]; omega
  refine ⟨⟨by simp only [List.length_map, a.2]; omega, by omega⟩, ?_⟩
  simp only [partP, Bool.false_eq_true, if_false, Nat.zero_add, Nat.mul_one, flat_maps, idx]
  rw [List.getD_eq_getElem?_getD, List.getElem?_map, List.getElem?_eq_getElem hi, List.getD_eq_getElem?_getD, List.getElem?_eq_getElem hi]; rfl
theorem spl_arr {a : Arr n α} {i : Int} {x : α} (h : 0 ≤ i ∧ i < (n : Int)) : spl ((a.1.map en).map PV.d) (0 + i.toNat * 1) [PV.d (en x)] = ((a.put i x).1.map en).map PV.d := by
  have hi : i.toNat < a.1.length := by rw [a.2]; omega
  simp only [spl, Nat.zero_add, Nat.mul_one, Arr.put]
  apply List.ext_getElem?
  intro j
  simp only [flat_maps, List.getElem?_map, List.getElem?_set]
  rcases Nat.lt_trichotomy j i.toNat with hj | hj | hj
  · rw [List.getElem?_append_left (by simp; omega), List.getElem?_take, if_pos hj, List.getElem?_map, if_neg (by omega)]
  · subst hj
    rw [List.getElem?_append_right (by simp; omega), if_pos rfl, if_pos hi]
    simp only [List.length_take, List.length_map, Nat.min_eq_left (Nat.le_of_lt hi), Nat.sub_self, List.cons_append, List.getElem?_cons_zero, Option.map_some]
  · rw [List.getElem?_append_right (by simp; omega), if_neg (by omega)]
    simp only [List.length_take, List.length_map, Nat.min_eq_left (Nat.le_of_lt hi)]
    rw [show j - i.toNat = (j - i.toNat - 1) + 1 by omega, List.cons_append, List.getElem?_cons_succ, List.nil_append, List.getElem?_drop, List.getElem?_map, List.length_singleton, show i.toNat + 1 + (j - i.toNat - 1) = j by omega]
theorem len_arr {a : Arr n α} {i : Int} (h : 0 ≤ i ∧ i < (n : Int)) : 0 + i.toNat * 1 + 1 ≤ ((a.1.map en).map PV.d).length := by simp only [List.length_map, a.2]; omega
theorem ldv_all {a : Arr n α} (h : 0 < n) : LdV true n 0 ((a.1.map en).map .d) (.agg ((a.1.map en).map .d)) := by
  refine ⟨⟨by simp [a.2], h⟩, ?_⟩
  simp only [partP, if_true, List.drop_zero]
  rw [List.take_of_length_le (by simp [a.2])]
theorem imp_arr {l : List D} : Imp (.agg (l.map .d)) (.d (.agg l)) := Imp.toD (by simp only [PV.toD, toDs_d, Option.map_some])
theorem spl_same {l c : List PV} (h : l.length = c.length) : spl l 0 c = c := by
  unfold spl
  rw [List.take_zero, List.nil_append, List.drop_eq_nil_of_le (by omega), List.append_nil]
theorem toDs_map {l : List D} : PV.toDs (l.map .d) = some l := toDs_d l
theorem sf_lenPA {x : Operand} {t u e : TypeId} (ho : o.op = .call { callee := .builtin .len, args := #[x], argTypes := #[t] }) (ht : P.underlying t = some (.pointer u)) (hu : P.underlying u = some (.array n e)) (hk : k (.d (.val (.int .i64 (n : Int)))) H nx [] []) : stepF P frz o ⟨S, H, nx, df⟩ k :=
  sf_builtin ho rfl (by simp) (by show (lenF P t (evP S x)).2; unfold lenF; rw [ht]; simp only [hu]) (by show (lenF P t (evP S x)).1 = _; unfold lenF; rw [ht]; simp only [hu]) hk
/-- The first n elements of a row as an array. -/
theorem sf_toArr {t : TypeId} {x : Operand} {l : List α} {ag : Bool} (ho : o.op = .sliceToArrayPointer t x) (ht : arrA P t = some (n, 1, ag)) (hx : (evP S x).elems = some (l.map en)) (hf : ∀ y, (en y).flat = true) (h : n ≤ l.length) (hn : 0 < n)
    (hk : k (.d (.cptr (l.map en))) H nx [] []) : stepF P frz o ⟨S, H, nx, df⟩ k := by
  unfold stepF; rw [ho]
  simp only [pureF, ht, hx, List.length_map]
  refine ⟨⟨h, fun e => ?_, fun y hy => ?_⟩, hk⟩
  · have := congrArg List.length e
    simp at this; subst this; simp at h; omega
  · obtain ⟨z, _, rfl⟩ := List.mem_map.1 hy; exact hf z
def toArr [Inhabited α] (n : Nat) (l : List α) : Arr n α := if h : n ≤ l.length then ⟨l.take n, by simp [h]⟩ else Arr.rep n default
theorem ld_toArr [Inhabited α] {l : List α} (h : n ≤ l.length) : LdC true n (l.map en) (.agg ((toArr n l).1.map en)) := by
  refine ⟨by simpa using h, ?_⟩
  unfold toArr
  rw [dif_pos h, List.map_take]

/-! ### Numbers of eight bits, and of 32 and 64 -/
theorem sf_u8add {t u : TypeId} {x y : Operand} {p q : UInt8} (ho : o.op = .binOp .add t x y u) (hx : evP S x = .d (.val (.int .u8 (p.toNat : Int)))) (hy : evP S y = .d (.val (.int .u8 (q.toNat : Int)))) (hk : k (.d (.val (.int .u8 ((p + q).toNat : Int)))) H nx [] []) : stepF P frz o ⟨S, H, nx, df⟩ k :=
  sf_bin ho hx hy rfl rfl (by show PV.d (.val (.int .u8 (IntKind.u8.wrap _))) = _; rw [add_u8]) hk
theorem sub_u8 (a b : UInt8) : IntKind.u8.wrap ((a.toNat : Int) - (b.toNat : Int)) = (a - b).toNat := by
  rw [IntKind.wrap_u8, UInt8.toNat_sub]
  have := byte_lt a; have := byte_lt b
  omega
theorem mul_u8 (a b : UInt8) : IntKind.u8.wrap ((a.toNat : Int) * (b.toNat : Int)) = (a * b).toNat := by
  rw [IntKind.wrap_u8, UInt8.toNat_mul]
  omega
theorem sf_u8sub {t u : TypeId} {x y : Operand} {p q : UInt8} (ho : o.op = .binOp .sub t x y u) (hx : evP S x = .d (.val (.int .u8 (p.toNat : Int)))) (hy : evP S y = .d (.val (.int .u8 (q.toNat : Int)))) (hk : k (.d (.val (.int .u8 ((p - q).toNat : Int)))) H nx [] []) : stepF P frz o ⟨S, H, nx, df⟩ k :=
  sf_bin ho hx hy rfl rfl (by show PV.d (.val (.int .u8 (IntKind.u8.wrap _))) = _; rw [sub_u8]) hk
theorem sf_u8mul {t u : TypeId} {x y : Operand} {p q : UInt8} (ho : o.op = .binOp .mul t x y u) (hx : evP S x = .d (.val (.int .u8 (p.toNat : Int)))) (hy : evP S y = .d (.val (.int .u8 (q.toNat : Int)))) (hk : k (.d (.val (.int .u8 ((p * q).toNat : Int)))) H nx [] []) : stepF P frz o ⟨S, H, nx, df⟩ k :=
  sf_bin ho hx hy rfl rfl (by show PV.d (.val (.int .u8 (IntKind.u8.wrap _))) = _; rw [mul_u8]) hk
theorem sf_u8or {t u : TypeId} {x y : Operand} {p q : UInt8} (ho : o.op = .binOp .or t x y u) (hx : evP S x = .d (.val (.int .u8 (p.toNat : Int)))) (hy : evP S y = .d (.val (.int .u8 (q.toNat : Int)))) (hk : k (.d (.val (.int .u8 ((p ||| q).toNat : Int)))) H nx [] []) : stepF P frz o ⟨S, H, nx, df⟩ k :=
  sf_bin ho hx hy rfl rfl (by show PV.d (.val (.int .u8 (IntKind.u8.wrap _))) = _; rw [or_u8]) hk
theorem sf_u8and {t u : TypeId} {x y : Operand} {p q : UInt8} (ho : o.op = .binOp .and t x y u) (hx : evP S x = .d (.val (.int .u8 (p.toNat : Int)))) (hy : evP S y = .d (.val (.int .u8 (q.toNat : Int)))) (hk : k (.d (.val (.int .u8 ((p &&& q).toNat : Int)))) H nx [] []) : stepF P frz o ⟨S, H, nx, df⟩ k :=
  sf_bin ho hx hy rfl rfl (by show PV.d (.val (.int .u8 (IntKind.u8.wrap _))) = _; rw [and_u8]) hk
theorem u8_ne {q : UInt8} (h : q ≠ 0) : (q.toNat : Int) ≠ 0 := by
  intro e; apply h; apply UInt8.toNat_inj.1; show q.toNat = 0; omega
theorem sf_u8quo {t u : TypeId} {x y : Operand} {p q : UInt8} (ho : o.op = .binOp .quo t x y u) (hx : evP S x = .d (.val (.int .u8 (p.toNat : Int)))) (hy : evP S y = .d (.val (.int .u8 (q.toNat : Int)))) (h : q ≠ 0) (hk : k (.d (.val (.int .u8 ((p / q).toNat : Int)))) H nx [] []) : stepF P frz o ⟨S, H, nx, df⟩ k := by
  refine sf_bin ho hx hy rfl ⟨rfl, u8_ne h⟩ ?_ hk
  show PV.d (.val (.int .u8 (IntKind.u8.wrap ((p.toNat : Int).tdiv (q.toNat : Int))))) = _
  have e : (p.toNat : Int).tdiv (q.toNat : Int) = ((p / q).toNat : Int) := by rw [UInt8.toNat_div]; rfl
  rw [e, wrap_toNat]
theorem sf_u8rem {t u : TypeId} {x y : Operand} {p q : UInt8} (ho : o.op = .binOp .rem t x y u) (hx : evP S x = .d (.val (.int .u8 (p.toNat : Int)))) (hy : evP S y = .d (.val (.int .u8 (q.toNat : Int)))) (h : q ≠ 0) (hk : k (.d (.val (.int .u8 ((p % q).toNat : Int)))) H nx [] []) : stepF P frz o ⟨S, H, nx, df⟩ k := by
  refine sf_bin ho hx hy rfl ⟨rfl, u8_ne h⟩ ?_ hk
  show PV.d (.val (.int .u8 ((p.toNat : Int).tmod (q.toNat : Int)))) = _
  have e : (p.toNat : Int).tmod (q.toNat : Int) = ((p % q).toNat : Int) := by rw [UInt8.toNat_mod]; rfl
  rw [e]
def u8shr (a : UInt8) (c : Int) : UInt8 := UInt8.ofNat (a.toNat / 2 ^ (min c.toNat 8))
def u8shl (a : UInt8) (c : Int) : UInt8 := UInt8.ofNat (a.toNat * 2 ^ (min c.toNat 8))
theorem sf_u8shr {t u : TypeId} {x y : Operand} {p : UInt8} {c : Int} {kd : IntKind} (ho : o.op = .binOp .shr t x y u) (hx : evP S x = .d (.val (.int .u8 (p.toNat : Int)))) (hy : evP S y = .d (.val (.int kd c))) (h : 0 ≤ c) (hk : k (.d (.val (.int .u8 ((u8shr p c).toNat : Int)))) H nx [] []) : stepF P frz o ⟨S, H, nx, df⟩ k := by
  refine sf_bin ho hx hy rfl h ?_ hk
  show PV.d (.val (.int .u8 ((p.toNat : Int).fdiv (2 ^ (min c.toNat 8))))) = _
  have h1 : p.toNat / 2 ^ (min c.toNat 8) < 256 := Nat.lt_of_le_of_lt (Nat.div_le_self _ _) (byte_lt p)
  have e : (p.toNat : Int).fdiv (2 ^ (min c.toNat 8)) = ((p.toNat / 2 ^ (min c.toNat 8) : Nat) : Int) := by
    rw [Int.fdiv_eq_ediv_of_nonneg _ (by exact Int.le_of_lt (Int.pow_pos (by decide)))]
    push_cast; rfl
  rw [e, u8shr, UInt8.toNat_ofNat', Nat.mod_eq_of_lt h1]
theorem sf_u8shl {t u : TypeId} {x y : Operand} {p : UInt8} {c : Int} {kd : IntKind} (ho : o.op = .binOp .shl t x y u) (hx : evP S x = .d (.val (.int .u8 (p.toNat : Int)))) (hy : evP S y = .d (.val (.int kd c))) (h : 0 ≤ c) (hk : k (.d (.val (.int .u8 ((u8shl p c).toNat : Int)))) H nx [] []) : stepF P frz o ⟨S, H, nx, df⟩ k := by
  refine sf_bin ho hx hy rfl h ?_ hk
  show PV.d (.val (.int .u8 (IntKind.u8.wrap ((p.toNat : Int) * 2 ^ (min c.toNat 8))))) = _
  have e : (p.toNat : Int) * 2 ^ (min c.toNat 8) = ((p.toNat * 2 ^ (min c.toNat 8) : Nat) : Int) := by push_cast; rfl
  rw [e, wrap_ofNat, u8shl]

/-- Arrays of bytes held against each other. -/
theorem sf_arreq {t u : TypeId} {x y : Operand} {p q : Arr n UInt8} (ho : o.op = .binOp .eql t x y u) (hb : arrB P t n = true) (hx : evP S x = .d (.agg (p.1.map byteD))) (hy : evP S y = .d (.agg (q.1.map byteD))) (hk : k (.d (.val (.bool (p.1 == q.1)))) H nx [] []) : stepF P frz o ⟨S, H, nx, df⟩ k :=
  sf_aggeq ho (by rw [hx]; rfl) (by rw [hx]; rfl) (by rw [hy]; rfl) (EqRun.bytes hb _ _ p.2 q.2) hk
theorem sf_arrne {t u : TypeId} {x y : Operand} {p q : Arr n UInt8} (ho : o.op = .binOp .neq t x y u) (hb : arrB P t n = true) (hx : evP S x = .d (.agg (p.1.map byteD))) (hy : evP S y = .d (.agg (q.1.map byteD))) (hk : k (.d (.val (.bool (!(p.1 == q.1))))) H nx [] []) : stepF P frz o ⟨S, H, nx, df⟩ k :=
  sf_aggne ho (by rw [hx]; rfl) (by rw [hx]; rfl) (by rw [hy]; rfl) (EqRun.bytes hb _ _ p.2 q.2) hk
end
theorem ldv_ldc {l : List D} {off m : Nat} {d : D} (h : LdC false m (l.drop off) d) (hl : off + m ≤ l.length) (hm : 0 < m) : LdV false m off (l.map .d) (.d d) := by
  obtain ⟨h1, h2⟩ := h
  refine ⟨⟨by simpa using hl, hm⟩, ?_⟩
  simp only [partP, Bool.false_eq_true, if_false]
  rw [List.getD_eq_getElem?_getD, List.getElem?_map, List.getElem?_eq_getElem (by omega)]
  rw [List.drop_eq_getElem_cons (by omega)] at h2
  exact congrArg PV.d h2
theorem ldv_ldcA {l : List D} {off m : Nat} {c : List D} (h : LdC true m (l.drop off) (.agg c)) (hl : off + m ≤ l.length) (hm : 0 < m) : LdV true m off (l.map .d) (.agg (c.map .d)) := by
  obtain ⟨h1, h2⟩ := h
  refine ⟨⟨by simpa using hl, hm⟩, ?_⟩
  simp only [partP, if_true]
  injection h2 with h2
  rw [← List.map_drop, ← List.map_take, h2]
theorem len_map2 (a : Arr n α) : ((a.1.map en).map PV.d).length = n := by simp [a.2]
theorem le_map2 (a : Arr n α) : 0 + n ≤ ((a.1.map en).map PV.d).length := by rw [len_map2, Nat.zero_add]; exact Nat.le_refl _
theorem spl_dd {c1 c2 : List D} (h : c1.length = c2.length) : spl (c1.map PV.d) 0 (c2.map PV.d) = c2.map PV.d := spl_same (by simpa using h)
theorem le_dd {c : List D} {m : Nat} (h : c.length = m) : 0 + m ≤ (c.map PV.d).length := by simp [h]
theorem len_dd {c : List D} {m : Nat} (h : c.length = m) : (c.map PV.d).length = m := by simpa using h
theorem ldv_dd {c : List D} {m : Nat} (h : c.length = m) (hm : 0 < m) : LdV true m 0 (c.map .d) (.agg (c.map .d)) := by
  refine ⟨⟨by simp [h], hm⟩, ?_⟩
  simp only [partP, if_true, List.drop_zero]
  rw [List.take_of_length_le (by simp [h])]
theorem flat_drop {l : List D} {j : Nat} (h : ∀ x ∈ l, x.flat = true) : ∀ x ∈ l.drop j, x.flat = true := fun x hx => h x (List.mem_of_mem_drop hx)
theorem flat_arr (a : Arr n α) (h : ∀ y, (en y).flat = true) : ∀ x ∈ a.1.map en, x.flat = true := by
  intro x hx
  obtain ⟨z, _, rfl⟩ := List.mem_map.1 hx; exact h z

/-- What nobody writes any more is data. -/
theorem View.freeze {s : St} {l : List D} (id t : Nat) (hH : s.H id = some (.var (l.map .d))) (ht : s.S t = .vptr id 0) (hbn : b ≤ s.nx) : View N b s ⟨putS s.S (some t) (.d (.cptr l)), putH s.H id none, s.nx, s.df⟩ := by
  intro m ρ a w hI
  obtain ⟨b0, cc, vs, ty, e1, e2, e3, e5, e4⟩ := hI.valid.entry id _ trivial hH
  have hm1 : m.le (m.with b0 vs) := fun x y v e => by
    unfold Mem.with
    split
    · rename_i hx; rw [hx, e4] at e; cases e
    · exact e
  have hnew : ∀ x y v, (m.with b0 vs) x y = some v → m x y = some v ∨ x = b0 := by
    intro x y v e
    unfold Mem.with at e
    split at e
    · rename_i hx; exact .inr hx
    · exact .inl e
  have hmem : MemOK (m.with b0 vs) w := by
    intro x y v e
    unfold Mem.with at e
    split at e
    · rename_i hx
      subst hx
      refine ⟨?_, e5 v (List.mem_of_getElem? e)⟩
      rw [cell_of_block e2]
      simpa using e
    · exact hI.valid.mem x y v e
  have hl := RepP.toDs (l.map .d) l vs (toDs_d l) e3
  have repC : ∀ (l : List D) (us : List Value) (o : Nat), RepL m l us → (∀ j v, us[j]? = some v → (m.with b0 vs) b0 (o + j) = some v) → RepC (m.with b0 vs) b0 l o := by
    intro l
    induction l with
    | nil => intro us o _ _; simp [RepC]
    | cons x r ih =>
      intro us o hr hc
      simp only [RepL] at hr
      obtain ⟨v, vr, rfl, h1, h2⟩ := hr
      simp only [RepC]
      refine ⟨⟨v, by simpa using hc 0 v rfl, h1.mono hm1⟩, ih vr (o + 1) h2 fun j u hj => ?_⟩
      have := hc (j + 1) u (by simpa using hj)
      rwa [show o + 1 + j = o + (j + 1) by omega]
  have hI' : Inv N ⟨putS s.S (some t) (.d (.cptr l)), putH s.H id none, s.nx, s.df⟩ (m.with b0 vs) ρ a w := by
    refine ⟨hI.size, hI.defers.mono hm1 (Ren.le_refl _), fun i => ?_, ⟨hmem, fun i o _ hH' => ?_, fun i j b1 c1 c2 _ _ hi hj hri hrj => ?_⟩, fun i hi => ?_, hI.rnil⟩
    · show Rep _ _ (putS s.S (some t) (.d (.cptr l)) i) _
      rw [putS_at]
      split
      · rename_i e
        subst e
        have := hI.slots i
        rw [ht] at this
        simp only [Rep] at this
        obtain ⟨b', c', hr, ev⟩ := this
        rw [e1] at hr; cases hr
        simp only [Rep, RepD]
        exact ⟨b0, 0, ev, repC l vs 0 hl fun j v hj => by simp [Mem.with, hj]⟩
      · exact (hI.slots i).mono hm1 (Ren.le_refl _)
    · by_cases e : i = id
      · subst e; simp [putH] at hH'
      · simp only [putH, e, if_false] at hH'
        have hE := hI.valid.entry i o trivial hH'
        refine hE.move hm1 (Ren.le_refl _) rfl (fun _ _ _ => rfl) (fun b' c' hr o' v e' => ?_)
        rcases hnew b' o' v e' with h1 | h1
        · exact h1
        · subst h1
          exact absurd (hI.valid.apart i id b' c' cc trivial trivial (by rw [hH']; simp) (by rw [hH]; simp) hr e1) e
    · refine hI.valid.apart i j b1 c1 c2 trivial trivial ?_ ?_ hri hrj
      · intro e; apply hi; simp only [putH]; split
        · rfl
        · exact e
      · intro e; apply hj; simp only [putH]; split
        · rfl
        · exact e
    · simp only [putH]
      split
      · rfl
      · exact hI.hnil i hi
  have blk : ∀ x, Blk ρ (putH s.H id none) (fun _ => True) x → Blk ρ s.H (fun _ => True) x := by
    rintro x ⟨i, c, _, hl, hri⟩
    refine ⟨i, c, trivial, ?_, hri⟩
    intro e
    apply hl
    simp only [putH]
    split
    · rfl
    · exact e
  have bid : Blk ρ s.H (fun _ => True) b0 := ⟨id, cc, trivial, by rw [hH]; simp, e1⟩
  refine ⟨m.with b0 vs, ρ, hI', ⟨⟨hm1, Nat.le_refl _, fun _ _ _ => rfl, rfl, rfl, rfl, fun x y v e => ?_⟩, fun c hc => .inl (blk c hc), hbn, fun _ _ => rfl⟩⟩
  rcases hnew x y v e with h2 | h2
  · exact .inl h2
  · subst h2; exact .inr (.inl bid)

section
variable {S : Nat → PV} {H : HM} {nx : Nat} {df : List (Nat × List PV)} {frz : List Nat} {k : PV → HM → Nat → List Nat → List Nat → Prop}
/-- An element of an array that is a value. -/
theorem sf_idxV' [Inhabited α] {t : TypeId} {x y : Operand} {a : Arr n α} {i : Int} {kd : IntKind} (ho : o.op = .index t x y) (ht : arrA P t = some (n, 1, false)) (hx : evP S x = .d (.agg (a.1.map en))) (hy : evP S y = .d (.val (.int kd i)))
    (h : 0 ≤ i ∧ i < (n : Int)) (hk : k (.d (en (idx a.1 i))) H nx [] []) : stepF P frz o ⟨S, H, nx, df⟩ k := by
  unfold stepF; rw [ho]
  have hi : i.toNat < a.1.length := by rw [a.2]; omega
  have e : partD false (a.1.map en) (i.toNat * 1) 1 = en (idx a.1 i) := by
    simp only [partD, Bool.false_eq_true, if_false, Nat.mul_one]
    exact getD_map (by rw [a.2]; exact h)
  simp only [pureF, indexP, ht, hx, hy, e]
  exact ⟨⟨(fun h => nomatch h), h, by simp [a.2], by omega⟩, hk⟩
end
end Go.Proofs.Ytonlehebfeilmaa.K
