/- Frozen epochs: plain laws, and the closures' laws of what they carry. -/
import Derived.Test.YtonlehebfeilmaaPSha
import Derived.Test.YtonlehebfeilmaaK29
namespace Go.Proofs.Ytonlehebfeilmaa.K
open Go Go.RowKit
def atS (l : List (List UInt8)) (e : Int) : List UInt8 := if 0 ≤ e ∧ e < l.length then l.getD e.toNat [] else List.replicate 32 0
theorem getD_len {l : List (List UInt8)} (h : ∀ s ∈ l, s.length = 32) : ∀ i, i < l.length → (l.getD i []).length = 32 := fun i hi => by
  rw [List.getD_eq_getElem?_getD, List.getElem?_eq_getElem hi]
  exact h _ (List.getElem_mem hi)
theorem take_getD {l : List UInt8} {i : Nat} (h : i < l.length) : l.take (i + 1) = l.take i ++ [l.getD i 0] := by
  rw [List.take_add_one, List.getD_eq_getElem?_getD, List.getElem?_eq_getElem h]
  rfl
theorem sinceN_eq0 : True := trivial
def sinceN (e : Int) (n : Nat) : Nat := (if (n : Int) < (if e < 0 then 0 else e) then (n : Int) else (if e < 0 then 0 else e)).toNat
theorem sinceN_eq (e : Int) (n : Nat) : (if (n : Int) < (if 0 > e then 0 else e) then (n : Int) else (if 0 > e then 0 else e)) = ((sinceN e n : Nat) : Int) := by
  unfold sinceN
  repeat' split
  all_goals omega
theorem sinceN_le (e : Int) (n : Nat) : sinceN e n ≤ n := by
  unfold sinceN
  repeat' split
  all_goals omega

theorem putH_self {H : HM} {i : Nat} {o : HO} (h : H i = some o) : putH H i (some o) = H := by
  funext j
  rw [putH_at]
  split
  · rename_i e; rw [e, h]
  · rfl
theorem Spec.mono {P : Program} {f : Nat} {args : List PV} {H : HM} {nx : Nat} {post post' : Out → HM → Nat → Prop} (h : Spec P f args H nx post) (k : ∀ out H' nx', post out H' nx' → post' out H' nx') : Spec P f args H nx post' := by
  intro m ρ w vs V hn hρ hr
  refine (h m ρ w vs V hn hρ hr).mono ?_
  rintro e w' ⟨out, H', nx', m', ρ', hp, rest⟩
  exact ⟨out, H', nx', m', ρ', k _ _ _ hp, rest⟩
def JT (l : List (List UInt8)) (i : Nat) (H : HM) (nx : Nat) : Prop := ∃ id, id ≠ 0 ∧ id < nx ∧ 0 < nx ∧ H 0 = some (.var [.own id (((l.take i).flatten).map byteD)]) ∧ H id = some (.spare 1 ((l.take i).flatten).length)
theorem JT_st (l : List (List UInt8)) : ∀ i H nx G, JT l i H nx → (∀ j, j ≠ nx → G j = H j) → JT l i G (nx + 1) := by
  rintro i H nx G ⟨id, g1, g2, g3, g4, g5⟩ hG
  exact ⟨id, g1, by omega, by omega, by rw [hG 0 (by omega), g4], by rw [hG id (by omega), g5]⟩
theorem JT_zero (l : List (List UInt8)) : JT l 0 (putH (putH (putH (fun _ => none) 0 (some (.var [.full []]))) 0 (some (.var [.own 1 []]))) 1 (some (.spare 1 0))) (1 + 1) := ⟨1, by simp, by simp, by simp, by simp [putH], by simp [putH]⟩
theorem flat_all {l : List (List UInt8)} (h : ∀ s ∈ l, s.length = 32) : l.flatten.length = 32 * l.length := by
  induction l with
  | nil => rfl
  | cons x r ih =>
    rw [List.flatten_cons, List.length_append, ih (fun s hs => h s (List.mem_cons_of_mem _ hs)), h x (List.mem_cons_self ..), List.length_cons]
    omega
theorem flat_len {l : List (List UInt8)} (h : ∀ s ∈ l, s.length = 32) (i : Nat) : ((l.take i).flatten).length ≤ 32 * l.length := by
  rw [flat_all (fun s hs => h s (List.mem_of_mem_take hs)), List.length_take]
  omega
def intD (n : Nat) : D := .val (.int .i64 (n : Int))
theorem map_append_int {o : List Nat} {e : Nat} : o.map intD ++ [D.val (.int .i64 (e : Int))] = (o ++ [e]).map intD := by simp [intD]
theorem all_ints (l : List Nat) : (∀ x ∈ l.map intD, x.cells.length = 1) = True := by
  refine eq_true ?_
  intro x hx
  obtain ⟨b, _, rfl⟩ := List.mem_map.1 hx
  rfl
def whereN (l : List (List UInt8)) (x : List UInt8) (i : Nat) : List Nat := (List.range i).filter fun j => l.getD j [] == x
theorem whereN_succ (l : List (List UInt8)) (x : List UInt8) (i : Nat) : whereN l x (i + 1) = if (l.getD i [] == x) = true then whereN l x i ++ [i] else whereN l x i := by
  unfold whereN
  rw [List.range_succ, List.filter_append]
  simp only [List.filter_cons, List.filter_nil]
  split <;> simp
theorem whereN_len (l : List (List UInt8)) (x : List UInt8) (i : Nat) : (whereN l x i).length ≤ i := by
  have := List.length_filter_le (fun j => l.getD j [] == x) (List.range i)
  rw [List.length_range] at this
  exact this
def JW (l : List (List UInt8)) (x : List UInt8) (i : Nat) (H : HM) (nx : Nat) : Prop := ∃ id, id ≠ 0 ∧ id < nx ∧ 0 < nx ∧ H 0 = some (.var [.own id ((whereN l x i).map intD)]) ∧ H id = some (.spare 1 (whereN l x i).length)
theorem JW_st (l : List (List UInt8)) (x : List UInt8) : ∀ i H nx G, JW l x i H nx → (∀ j, j ≠ nx → G j = H j) → JW l x i G (nx + 1) := by
  rintro i H nx G ⟨id, g1, g2, g3, g4, g5⟩ hG
  exact ⟨id, g1, by omega, by omega, by rw [hG 0 (by omega), g4], by rw [hG id (by omega), g5]⟩
theorem JW_zero (l : List (List UInt8)) (x : List UInt8) : JW l x 0 (putH (putH (putH (fun _ => none) 0 (some (.var [.full []]))) 0 (some (.var [.own 1 []]))) 1 (some (.spare 1 0))) (1 + 1) := ⟨1, by simp, by simp, by simp, by simp [putH, whereN], by simp [putH, whereN]⟩
def strD (s : List UInt8) : D := .val (.string ⟨s.toArray⟩)
theorem strD_app (s : List UInt8) : strD s = .val (.string ⟨s.toArray⟩) := rfl
theorem getD_strs {l : List (List UInt8)} {i : Nat} (h : i < l.length) : ((l.map strD).getD i default).cells = [.val (.string ⟨(l.getD i []).toArray⟩)] := by
  rw [List.getD_eq_getElem?_getD, List.getD_eq_getElem?_getD, List.getElem?_map, List.getElem?_eq_getElem h]
  rfl
theorem all_strs (l : List (List UInt8)) : (∀ x ∈ l.map strD, x.cells.length = 1) = True := by
  refine eq_true ?_
  intro x hx
  obtain ⟨b, _, rfl⟩ := List.mem_map.1 hx
  rfl
theorem map_append_str {l : List (List UInt8)} {s : List UInt8} : l.map strD ++ [D.val (.string ⟨s.toArray⟩)] = (l ++ [s]).map strD := by simp [strD]
theorem strs_len {l : List (List UInt8)} (h : ∀ s ∈ l, s.length ≤ 2 ^ 40) {i : Nat} (hi : i < l.length) : (l.getD i []).length ≤ 2 ^ 40 := by
  rw [List.getD_eq_getElem?_getD, List.getElem?_eq_getElem hi]
  exact h _ (List.getElem_mem hi)
def sumsTo (l : List (List UInt8)) (i : Nat) : List (List UInt8) := (List.range i).map fun j => shaB (l.getD j [])
theorem sumsTo_len (l : List (List UInt8)) (i : Nat) : (sumsTo l i).length = i := by simp [sumsTo]
theorem sumsTo_zero (l : List (List UInt8)) : sumsTo l 0 = [] := rfl
theorem sumsTo_succ (l : List (List UInt8)) (i : Nat) : sumsTo l i ++ [shaB (l.getD i [])] = sumsTo l (i + 1) := by simp [sumsTo, List.range_succ]
theorem sumsTo_get (l : List (List UInt8)) {i j : Nat} (h : j < i) : (sumsTo l i).getD j [] = shaB (l.getD j []) := by
  rw [sumsTo, List.getD_eq_getElem?_getD, List.getElem?_map, List.getElem?_range h]
  rfl
def clashB (l : List (List UInt8)) (i k : Nat) : Bool := (shaB (l.getD k []) == shaB (l.getD i [])) && !(l.getD k [] == l.getD i [])
def clashAt (l : List (List UInt8)) (i j : Nat) : Bool := (List.range j).any fun k => clashB l i k
def clashTo (l : List (List UInt8)) (n : Nat) : Bool := (List.range n).any fun i => clashAt l i i
theorem clash_next {l : List (List UInt8)} {i j : Nat} (h : clashTo l i = false) (h2 : clashAt l i j = false) (e : j = i) : clashTo l (i + 1) = false := by
  subst e
  unfold clashTo at h ⊢
  rw [List.range_succ, List.any_append, h]
  simpa using h2
theorem clashAt_succ (l : List (List UInt8)) (i j : Nat) : clashAt l i (j + 1) = (clashAt l i j || clashB l i j) := by
  unfold clashAt
  rw [List.range_succ, List.any_append]
  simp
theorem clash_step1 {l : List (List UInt8)} {i j : Nat} (h : clashAt l i j = false) (e : ((sumsTo l (i + 1)).getD j [] == (sumsTo l (i + 1)).getD i []) = false) (hj : j < i) : clashAt l i (j + 1) = false := by
  rw [sumsTo_get l (by omega), sumsTo_get l (by omega)] at e
  rw [clashAt_succ, h, clashB, e]
  rfl
theorem clash_step2 {l : List (List UInt8)} {i j : Nat} (h : clashAt l i j = false) (e : (!(l.getD j [] == l.getD i [])) = false) : clashAt l i (j + 1) = false := by
  rw [clashAt_succ, h, clashB, e]
  simp
theorem clash_found {l : List (List UInt8)} {i j : Nat} (e : ((sumsTo l (i + 1)).getD j [] == (sumsTo l (i + 1)).getD i []) = true) (e2 : (!(l.getD j [] == l.getD i [])) = true) (hj : j < i) (hi : i < l.length) : clashTo l l.length = true := by
  rw [sumsTo_get l (by omega), sumsTo_get l (by omega)] at e
  unfold clashTo
  rw [List.any_eq_true]
  refine ⟨i, List.mem_range.2 hi, ?_⟩
  unfold clashAt
  rw [List.any_eq_true]
  exact ⟨j, List.mem_range.2 hj, by rw [clashB, e, e2]; rfl⟩
theorem atS_no {l : List (List UInt8)} {e : Int} (h : ¬ (0 ≤ e ∧ e < l.length)) : atS l e = List.replicate 32 0 := if_neg h
theorem atS_yes {l : List (List UInt8)} {e : Int} (h : 0 ≤ e ∧ e < l.length) : atS l e = l.getD e.toNat [] := if_pos h

def one (b : UInt8) : List UInt8 := b :: List.replicate 31 0
theorem sum1 : spl (List.map PV.d (List.map byteD (List.replicate 32 0))) 0 [PV.d (D.val (.int .u8 1))] = ((one 1).map byteD).map .d := rfl
theorem sum2 : spl (List.map PV.d (List.map byteD (List.replicate 32 0))) 0 [PV.d (D.val (.int .u8 2))] = ((one 2).map byteD).map .d := rfl
theorem ow0 : ∀ s ∈ ([] : List (List UInt8)), s.length = 32 := by simp
theorem ow1 : ∀ s ∈ [one 1], s.length = 32 := by simp [one]
theorem ow2 : ∀ s ∈ [one 1, one 2], s.length = 32 := by simp [one]
theorem aws1 : atS [one 1, one 2] 1 = one 2 := by decide
theorem aws2 : decide ((0 : Int) ≤ 1 ∧ (1 : Int) < ([one 1, one 2].length : Nat)) = true := by decide
theorem aws3 : [one 1, one 2].flatten.length = 64 := by decide
theorem aws4 : whereN [one 1, one 2] (one 1) [one 1, one 2].length = [0] := by decide
theorem aws5 : sinceN 1 [one 1, one 2].length = 1 := by decide
theorem two_len {a b : List UInt8} (ha : a.length ≤ 2 ^ 40) (hb : b.length ≤ 2 ^ 40) : ∀ s ∈ [a, b], s.length ≤ 2 ^ 40 := by
  intro s hs
  simp at hs
  rcases hs with rfl | rfl
  · exact ha
  · exact hb
theorem clash2 (a b : List UInt8) : clashTo [a, b] [a, b].length = ((shaB a == shaB b) && !(a == b)) := by
  simp [clashTo, clashAt, clashB, List.range_succ]
end Go.Proofs.Ytonlehebfeilmaa.K
