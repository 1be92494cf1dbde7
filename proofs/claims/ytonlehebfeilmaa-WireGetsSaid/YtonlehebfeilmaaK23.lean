/- An argument of a row, opened; shapes of bytes. -/
import Derived.Test.YtonlehebfeilmaaK22
namespace Go.Proofs.Ytonlehebfeilmaa.K
open Go Go.RowKit Go.ChangeShapes Go.WideShapes Go.ChangeAt

variable {P : Program}

theorem notAgg {W : World} {r : Reach} {b0 : Nat} {t : TypeId} {v : Value} {T : Ty} (hT : T.isAgg = false) (hs : shp P T t = true) (hv : Value.okWide P W r b0 t v) : v.cells.toList = [v] := by
  have key : ∀ cs, v ≠ .agg cs := by
    intro cs e
    subst e
    cases T <;> simp only [Ty.isAgg, Bool.true_eq_false] at hT <;> simp only [shp] at hs <;> split at hs <;> first | (cases hs; done) | (rename_i hu; simp [Value.okWide, hu, Cell.okWide, Cell.ok] at hv)
  cases v <;> simp_all [Value.cells]

theorem open_arg {H : Type} {enc : TypeId × Value → H} {W : World} {sp : Nat → Bool} {r : Reach} {b0 : Nat} {t : TypeId} {v : Value} {d : DataW H} {ps : List MemPlace} (T : Ty) (hs : shp P T t = true) (hv : Value.okWide P W r b0 t v) (h : DataW.Trod enc P W 0 sp true t v d ps) :
    ∃ l, HasC T l ∧ RepD (memOf W) (wrapD T l) v := by
  obtain ⟨fuel, h⟩ := h
  obtain ⟨l, h1, h2, h3⟩ := open_cells T t fuel _ _ hs h
  refine ⟨l, h1, ?_⟩
  cases hT : T.isAgg with
  | true =>
    have : ∃ cs, v = .agg cs := by
      cases T <;> simp only [Ty.isAgg, Bool.false_eq_true] at hT <;> simp only [shp] at hs <;> split at hs <;> first | (cases hs; done) | (rename_i hu; simp only [Value.okWide, hu] at hv; obtain ⟨cs, e, _⟩ := hv; exact ⟨cs, e⟩)
    obtain ⟨cs, rfl⟩ := this
    simp only [wrapD, hT, if_true, RepD]
    exact ⟨cs.toList, rfl, by simpa [Value.cells] using h2, by simpa [Value.cells] using h3⟩
  | false =>
    have hc := notAgg hT hs hv
    rw [hc] at h2
    have hw := wrapD_cells h1
    simp only [wrapD, hT, Bool.false_eq_true, if_false] at hw ⊢
    cases l with
    | nil => simp [RepL] at h2
    | cons x q =>
      simp only [RepL] at h2
      obtain ⟨v', vr, e, e1, e2⟩ := h2
      simp only [List.cons.injEq] at e
      obtain ⟨rfl, _⟩ := e
      simpa using e1

/-! ### Bytes -/

theorem has_u8 {l : List D} (h : HasC (.int .u8) l) : ∃ b : UInt8, l = [byteD b] := by
  simp only [HasC] at h
  obtain ⟨n, rfl, hw⟩ := h
  have hr : 0 ≤ n ∧ n ≤ 255 := by
    simp only [Lit.wf, Bool.and_eq_true, decide_eq_true_eq] at hw
    have h1 : IntKind.u8.min = 0 := by decide
    have h2 : IntKind.u8.max = 255 := by decide
    rw [h1, h2] at hw
    exact hw
  refine ⟨UInt8.ofNat n.toNat, ?_⟩
  have : ((UInt8.ofNat n.toNat).toNat : Int) = n := by
    rw [UInt8.toNat_ofNat']
    omega
  rw [byteD, this]

theorem flatten_u8 : ∀ {ls : List (List D)}, (∀ c ∈ ls, HasC (.int .u8) c) → ∃ bs : List UInt8, bs.length = ls.length ∧ ls.flatten = bs.map byteD
  | [], _ => ⟨[], rfl, rfl⟩
  | c :: r, h => by
    obtain ⟨b, e⟩ := has_u8 (h c (List.mem_cons_self ..))
    obtain ⟨bs, h1, h2⟩ := flatten_u8 (ls := r) fun x hx => h x (List.mem_cons_of_mem _ hx)
    exact ⟨b :: bs, by simp [h1], by simp [e, h2]⟩

/-- An array of bytes. -/
theorem has_bytes {n : Nat} {l : List D} (h : HasC (.arr n (.int .u8)) l) : ∃ bs : List UInt8, bs.length = n ∧ l = bs.map byteD := by
  simp only [HasC] at h
  obtain ⟨ls, h1, rfl, h2⟩ := h
  obtain ⟨bs, h3, h4⟩ := flatten_u8 (ls := ls) fun c hc => by simpa only [HasC] using h2 c hc
  exact ⟨bs, by omega, h4⟩

/-- What every element of a row is. -/
theorem has_map {α : Type} {e : Ty} {f : α → D} (one : ∀ x : D, HasC e x.cells → (∃ c, x = .agg c) = (e.isAgg = true) → ∃ a, x = f a) : ∀ {xs : List D}, (∀ x ∈ xs, HasC e x.cells ∧ (∃ c, x = .agg c) = (e.isAgg = true)) → ∃ as : List α, as.length = xs.length ∧ xs = as.map f
  | [], _ => ⟨[], rfl, rfl⟩
  | x :: r, h => by
    obtain ⟨a, e1⟩ := one x (h x (List.mem_cons_self ..)).1 (h x (List.mem_cons_self ..)).2
    obtain ⟨as, h1, h2⟩ := has_map one (xs := r) fun y hy => h y (List.mem_cons_of_mem _ hy)
    exact ⟨a :: as, by simp [h1], by simp [e1, h2]⟩

theorem cells_sing {x y : D} (h : x.cells = [y]) (ha : (∃ c, x = .agg c) = (false = true)) : x = y := by
  cases x with
  | agg c =>
    have : (false = true) := ha ▸ ⟨c, rfl⟩
    cases this
  | _ => simpa [D.cells] using h

/-- A row of bytes. -/
theorem has_row {l : List D} (h : HasC (.slice (.int .u8)) l) : ∃ bs : List UInt8, bs.length ≤ maxLen ∧ l = [.slice (bs.map byteD)] := by
  simp only [HasC] at h
  obtain ⟨xs, rfl, h1, h2⟩ := h
  obtain ⟨bs, h3, rfl⟩ := has_map (e := .int .u8) (f := byteD) (fun x hx ha => by
    obtain ⟨b, hb⟩ := has_u8 hx
    exact ⟨b, cells_sing hb ha⟩) (xs := xs) (by simpa only [HasC] using h2)
  exact ⟨bs, by omega, rfl⟩

/-- A row of arrays of n bytes. -/
theorem has_sums {n : Nat} {l : List D} (h : HasC (.slice (.arr n (.int .u8))) l) : ∃ ss : List (List UInt8), ss.length ≤ maxLen ∧ (∀ s ∈ ss, s.length = n) ∧ l = [.slice (ss.map fun s => .agg (s.map byteD))] := by
  simp only [HasC] at h
  obtain ⟨xs, rfl, h1, h2⟩ := h
  obtain ⟨ss, h3, rfl⟩ := has_map (α := { s : List UInt8 // s.length = n }) (e := .arr n (.int .u8)) (f := fun s => .agg (s.1.map byteD)) (fun x hx ha => by
    obtain ⟨bs, hb, e⟩ := has_bytes hx
    have : ∃ c, x = .agg c := ha ▸ rfl
    obtain ⟨c, rfl⟩ := this
    refine ⟨⟨bs, hb⟩, ?_⟩
    simp only [D.cells] at e
    rw [e]) (xs := xs) (fun x hx => by simpa only [HasC] using h2 x hx)
  refine ⟨ss.map (·.1), by simp; omega, ?_, by simp⟩
  intro s hs
  obtain ⟨y, _, rfl⟩ := List.mem_map.1 hs
  exact y.2
end Go.Proofs.Ytonlehebfeilmaa.K
