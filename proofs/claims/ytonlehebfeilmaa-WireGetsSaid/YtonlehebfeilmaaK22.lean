/- What an argument of a row is, as data. -/
import Derived.Test.YtonlehebfeilmaaK21
import Derived.ChangeArms
namespace Go.Proofs.Ytonlehebfeilmaa.K
open Go Go.RowKit Go.ChangeShapes Go.WideShapes Go.ChangeAt

variable {P : Program}

inductive Ty where
  | bool
  | int (k : IntKind)
  | str
  | slice (e : Ty)
  | st (l : List Ty)
  | arr (n : Nat) (e : Ty)

def Ty.isAgg : Ty → Bool
  | .st _ => true
  | .arr _ _ => true
  | _ => false

mutual
def Ty.size : Ty → Nat
  | .st l => Ty.sizes l
  | .arr n e => n * e.size
  | _ => 1
def Ty.sizes : List Ty → Nat
  | [] => 0
  | t :: r => t.size + Ty.sizes r
end

mutual
/-- The cells l bear a datum of type T. -/
def HasC : Ty → List D → Prop
  | .bool, l => ∃ b, l = [.val (.bool b)]
  | .int k, l => ∃ n, l = [.val (.int k n)] ∧ (Lit.int k n).wf = true
  | .str, l => ∃ s : ByteArray, l = [.val (.string s)] ∧ s.size ≤ maxLen
  | .slice e, l => ∃ xs : List D, l = [.slice xs] ∧ xs.length ≤ maxLen ∧ ∀ x ∈ xs, HasC e x.cells ∧ (∃ c, x = .agg c) = (e.isAgg = true)
  | .st ts, l => HasL ts l
  | .arr n e, l => ∃ ls : List (List D), ls.length = n ∧ l = ls.flatten ∧ ∀ c ∈ ls, HasC e c
def HasL : List Ty → List D → Prop
  | [], l => l = []
  | t :: r, l => ∃ a b, l = a ++ b ∧ HasC t a ∧ HasL r b
end

mutual
/-- Type t of the program is of shape T. -/
def shp (P : Program) : Ty → TypeId → Bool
  | .bool, t => match P.underlying t with
    | some .bool => true
    | _ => false
  | .int k, t => match P.underlying t with
    | some (.int k') => k' == k
    | _ => false
  | .str, t => match P.underlying t with
    | some .string => true
    | _ => false
  | .slice e, t => match P.underlying t with
    | some (.slice u) => shp P e u && (P.cellsOf u == e.size && decide (0 < e.size))
    | _ => false
  | .st ts, t => match P.underlying t with
    | some (.struct fs) => (P.cellsOf t == Ty.sizes ts) && shpL P ts fs.toList 0
    | _ => false
  | .arr n e, t => match P.underlying t with
    | some (.array k u) => (k == n) && (shp P e u && (P.cellsOf u == e.size && P.cellsOf t == n * e.size))
    | _ => false
def shpL (P : Program) : List Ty → List Field → Nat → Bool
  | [], [], _ => true
  | T :: r, f :: q, off => (f.offset == off) && ((P.cellsOf f.type == T.size) && (shp P T f.type && shpL P r q (off + T.size)))
  | _, _, _ => false
end

/-- The datum whose cells are l. -/
def wrapD (e : Ty) (l : List D) : D := if e.isAgg then .agg l else l.headD default

theorem wrapD_cells {e : Ty} {l : List D} (h : HasC e l) : (wrapD e l).cells = l := by
  cases e <;> simp only [HasC] at h <;> simp only [wrapD, Ty.isAgg, if_true, Bool.false_eq_true, if_false]
  · obtain ⟨b, rfl⟩ := h; rfl
  · obtain ⟨n, rfl, _⟩ := h; rfl
  · obtain ⟨n, rfl, _⟩ := h; rfl
  · obtain ⟨n, rfl, _⟩ := h; rfl
  · rfl
  · rfl

theorem wrapD_agg {e : Ty} {l : List D} (h : HasC e l) : (∃ c, wrapD e l = .agg c) = (e.isAgg = true) := by
  cases e <;> simp only [HasC] at h <;> simp only [wrapD, Ty.isAgg, if_true, Bool.false_eq_true, if_false]
  · obtain ⟨b, rfl⟩ := h; simp
  · obtain ⟨n, rfl, _⟩ := h; simp
  · obtain ⟨n, rfl, _⟩ := h; simp
  · obtain ⟨n, rfl, _⟩ := h; simp
  · simp
  · simp

theorem trod_array {H : Type} {enc : TypeId × Value → H} {w : World} {base : Nat} {sp : Nat → Bool} {held : Bool} {fuel : Nat} {t e : TypeId} {n : Nat} {cs : List Value} {x : DataW H × List MemPlace} (ht : P.underlying t = some (.array n e))
    (h : DataW.trod enc P w base sp held fuel t cs = some x) :
    ∃ (xs : List (DataW H × List MemPlace)) (k : Nat), fuel = k + 1 ∧ cs.length = P.cellsOf t ∧ xs.length = n ∧ ∀ i, i < n → DataW.trod enc P w base sp held k e ((cs.drop (i * P.cellsOf e)).take (P.cellsOf e)) = xs[i]? := by
  cases fuel with
  | zero => simp [DataW.trod] at h
  | succ k =>
    unfold DataW.trod at h
    rw [ht] at h
    split at h <;> simp_all
    obtain ⟨hl, xs, hp, hd⟩ := h
    exact ⟨xs, by simpa using mapM_some_length hp, fun i hi => mapM_some_get hp i i (by simp [hi])⟩

theorem cell_memOf {W : World} {b o : Nat} {v : Value} (h : W.cell? ⟨b, o, none⟩ = some v) (h1 : v.oneCell' = true) : memOf W b o = some v := by
  unfold memOf
  rw [h]
  simp [h1]

theorem split_arr {m : Mem} {e : Ty} {sz : Nat} : ∀ (n : Nat) (cs : List Value), cs.length = n * sz →
    (∀ i, i < n → ∃ l, HasC e l ∧ RepL m l ((cs.drop (i * sz)).take sz) ∧ ∀ u ∈ (cs.drop (i * sz)).take sz, u.oneCell' = true) →
    ∃ ls : List (List D), ls.length = n ∧ (∀ c ∈ ls, HasC e c) ∧ RepL m ls.flatten cs ∧ ∀ u ∈ cs, u.oneCell' = true := by
  intro n
  induction n with
  | zero =>
    intro cs hl _
    have : cs = [] := by simpa using hl
    subst this
    exact ⟨[], rfl, by simp, by simp [RepL], by simp⟩
  | succ n ih =>
    intro cs hl h
    obtain ⟨l, h1, h2, h3⟩ := h 0 (by omega)
    simp only [Nat.zero_mul, List.drop_zero] at h2 h3
    have hlen : (cs.drop sz).length = n * sz := by
      rw [List.length_drop, hl, Nat.succ_mul]
      omega
    obtain ⟨ls, e1, e2, e3, e4⟩ := ih (cs.drop sz) hlen (fun i hi => by
      have := h (i + 1) (by omega)
      rw [Nat.succ_mul] at this
      rw [List.drop_drop]
      rwa [Nat.add_comm sz (i * sz)])
    refine ⟨l :: ls, by simp [e1], ?_, ?_, ?_⟩
    · intro c hc
      rcases List.mem_cons.1 hc with rfl | hc
      · exact h1
      · exact e2 c hc
    · rw [List.flatten_cons, ← List.take_append_drop sz cs]
      exact repL_append h2 e3
    · intro u hu
      rw [← List.take_append_drop sz cs] at hu
      rcases List.mem_append.1 hu with hu | hu
      · exact h3 u hu
      · exact e4 u hu

theorem build_row {m : Mem} {b : Nat} {e : Ty} {sz : Nat} : ∀ (n o : Nat),
    (∀ i, i < n → ∃ l vs, HasC e l ∧ RepL m l vs ∧ vs.length = sz ∧ ∀ j v, vs[j]? = some v → m b (o + i * sz + j) = some v) →
    ∃ xs : List D, xs.length = n ∧ RepE m b xs o ∧ ∀ x ∈ xs, HasC e x.cells ∧ (∃ c, x = .agg c) = (e.isAgg = true) := by
  intro n
  induction n with
  | zero => intro o _; exact ⟨[], rfl, by simp [RepE], by simp⟩
  | succ n ih =>
    intro o h
    obtain ⟨l, vs, h1, h2, h3, h4⟩ := h 0 (by omega)
    obtain ⟨xs, e1, e2, e3⟩ := ih (o + sz) (fun i hi => by
      obtain ⟨l', vs', k1, k2, k3, k4⟩ := h (i + 1) (by omega)
      refine ⟨l', vs', k1, k2, k3, fun j v hv => ?_⟩
      have := k4 j v hv
      rw [Nat.succ_mul] at this
      rwa [show o + sz + i * sz + j = o + (i * sz + sz) + j from by omega])
    have hc := wrapD_cells h1
    have hlen : l.length = sz := by rw [← repL_len h2]; exact h3
    refine ⟨wrapD e l :: xs, by simp [e1], ?_, ?_⟩
    · rw [repE_cons, hc, hlen]
      refine ⟨repC_of_vals h2 fun j v hv => ?_, e2⟩
      have := h4 j v hv
      rwa [Nat.zero_mul, Nat.add_zero] at this
    · intro x hx
      rcases List.mem_cons.1 hx with rfl | hx
      · rw [hc]; exact ⟨h1, wrapD_agg h1⟩
      · exact e3 x hx

theorem cells_spot {W : World} {base : Nat} {a : Addr} {n : Nat} {cs : List Value} (h : W.cells? base a n = some cs) (hn : 0 < n) : a.spot = none := by
  unfold World.cells? at h
  split at h
  · have h0 := mapM_some_get h 0 0 (by simp [hn])
    have hl := mapM_some_length h
    simp only [List.length_range] at hl
    have : cs[0]? ≠ none := fun hc => by have := List.getElem?_eq_none_iff.1 hc; omega
    rw [← h0] at this
    cases hs : a.spot with
    | none => rfl
    | some s =>
      refine absurd ?_ this
      have : a.add 0 = a := by simp [Addr.add]
      rw [this]
      simp only [World.cell?]
      split
      · simp [hs]
      · rfl
  · cases h

theorem cells_get {W : World} {base b o n : Nat} {cs : List Value} (h : W.cells? base ⟨b, o, none⟩ n = some cs) : cs.length = n ∧ ∀ j v, cs[j]? = some v → W.cell? ⟨b, o + j, none⟩ = some v := by
  unfold World.cells? at h
  split at h
  · have hl := mapM_some_length h
    simp only [List.length_range] at hl
    refine ⟨hl, fun j v hv => ?_⟩
    have hj : j < n := by
      have := (List.getElem?_eq_some_iff.1 hv).1
      omega
    have := mapM_some_get h j j (by simp [hj])
    rw [addr_add] at this
    rw [this, hv]
  · cases h

mutual
theorem open_cells {H : Type} {enc : TypeId × Value → H} {W : World} {sp : Nat → Bool} : ∀ (T : Ty) (t : TypeId) (fuel : Nat) (cs : List Value) (x : DataW H × List MemPlace),
    shp P T t = true → DataW.trod enc P W 0 sp true fuel t cs = some x → ∃ l, HasC T l ∧ RepL (memOf W) l cs ∧ ∀ u ∈ cs, u.oneCell' = true
  | .bool, t, fuel, cs, x, hs, h => by
    simp only [shp] at hs
    split at hs
    · rename_i hu
      obtain ⟨b, rfl, _⟩ := DataW.trod_bool hu h
      exact ⟨_, ⟨b, rfl⟩, by simp [RepL, RepD], by simp [Value.oneCell']⟩
    · cases hs
  | .int k, t, fuel, cs, x, hs, h => by
    simp only [shp] at hs
    split at hs
    · rename_i k' hu
      have hk : k' = k := by simpa using hs
      subst hk
      obtain ⟨n, rfl, _, hw⟩ := DataW.trod_int hu h
      exact ⟨_, ⟨n, rfl, hw⟩, by simp [RepL, RepD], by simp [Value.oneCell']⟩
    · cases hs
  | .str, t, fuel, cs, x, hs, h => by
    simp only [shp] at hs
    split at hs
    · rename_i hu
      obtain ⟨s, rfl, _, hw⟩ := DataW.trod_string hu h
      exact ⟨_, ⟨s, rfl, hw⟩, by simp [RepL, RepD], by simp [Value.oneCell']⟩
    · cases hs
  | .slice e, t, fuel, cs, x, hs, h => by
    simp only [shp] at hs
    split at hs
    · rename_i u hu
      simp only [Bool.and_eq_true, beq_iff_eq, decide_eq_true_eq] at hs
      obtain ⟨h1, h2, h3⟩ := hs
      rcases DataW.trod_slice hu h with ⟨rfl, _⟩ | ⟨a, len, cap, elems, rest, n, rfl, rfl, _, _, hlc, hcm, hel, hget, _⟩
      · exact ⟨_, ⟨[], rfl, by simp, by simp⟩, by simp [RepL, RepD], by simp [Value.oneCell']⟩
      · rw [h2] at hget
        have each : ∀ i, i < len → ∃ csi xi, W.cells? 0 (a.add (i * e.size)) e.size = some csi ∧ DataW.trod enc P W 0 sp true n u csi = some xi := by
          intro i hi
          have := hget i hi
          have hx : elems[i]? = some (elems[i]'(by omega)) := List.getElem?_eq_getElem (by omega)
          rw [hx, Option.bind_eq_some_iff] at this
          obtain ⟨csi, k1, k2⟩ := this
          exact ⟨csi, _, k1, k2⟩
        by_cases h0 : len = 0
        · subst h0
          exact ⟨_, ⟨[], rfl, by simp, by simp⟩, by simp [RepL, RepD], by simp [Value.oneCell']⟩
        · have hspot : a.spot = none := by
            obtain ⟨csi, _, k1, _⟩ := each 0 (by omega)
            have := cells_spot k1 h3
            simpa [Addr.add] using this
          obtain ⟨b, o, s⟩ := a
          simp only at hspot
          subst hspot
          obtain ⟨xs, e1, e2, e3⟩ := build_row (m := memOf W) (b := b) (e := e) (sz := e.size) len o (fun i hi => by
            obtain ⟨csi, xi, k1, k2⟩ := each i hi
            obtain ⟨l, l1, l2, l3⟩ := open_cells e u n csi xi h1 k2
            rw [addr_add] at k1
            obtain ⟨k3, k4⟩ := cells_get k1
            exact ⟨l, csi, l1, l2, k3, fun j v hv => cell_memOf (k4 j v hv) (l3 v (List.mem_of_getElem? hv))⟩)
          refine ⟨[.slice xs], ⟨xs, rfl, by omega, e3⟩, ?_, by simp [Value.oneCell']⟩
          simp only [RepL, RepD]
          exact ⟨_, [], rfl, ⟨some ⟨b, o, none⟩, cap, by rw [e1], by omega, .inr ⟨b, o, rfl, e2⟩⟩, rfl⟩
    · cases hs
  | .st ts, t, fuel, cs, x, hs, h => by
    simp only [shp] at hs
    split at hs
    · rename_i fs hu
      simp only [Bool.and_eq_true, beq_iff_eq] at hs
      obtain ⟨h1, h2⟩ := hs
      obtain ⟨xs, n, rfl, _, hl, hx, hget⟩ := DataW.trod_struct hu h
      obtain ⟨l, l1, l2, l3⟩ := open_list ts fs.toList 0 n cs h2 (fun f hf => by
        obtain ⟨i, hi⟩ := List.mem_iff_getElem?.1 hf
        have hi' : fs[i]? = some f := by simpa using hi
        have := hget i f hi'
        have hlt : i < fs.size := (Array.getElem?_eq_some_iff.1 hi').1
        exact ⟨xs[i]'(by omega), by rw [this]; exact List.getElem?_eq_getElem (by omega)⟩) (by omega)
      have e : (cs.drop 0).take (Ty.sizes ts) = cs := by rw [List.drop_zero, List.take_of_length_le (by omega)]
      rw [e] at l2 l3
      exact ⟨l, by simpa only [HasC] using l1, l2, l3⟩
    · cases hs
  | .arr k e, t, fuel, cs, x, hs, h => by
    simp only [shp] at hs
    split at hs
    · rename_i k' u hu
      simp only [Bool.and_eq_true, beq_iff_eq] at hs
      obtain ⟨rfl, h1, h2, h3⟩ := hs
      obtain ⟨xs, n, rfl, hl, hx, hget⟩ := trod_array hu h
      rw [h2] at hget
      obtain ⟨ls, e1, e2, e3, e4⟩ := split_arr (m := memOf W) (e := e) (sz := e.size) k' cs (by omega) (fun i hi => by
        have := hget i hi
        rw [List.getElem?_eq_getElem (by omega)] at this
        exact open_cells e u n _ _ h1 this)
      exact ⟨_, ⟨ls, e1, rfl, e2⟩, e3, e4⟩
    · cases hs
theorem open_list {H : Type} {enc : TypeId × Value → H} {W : World} {sp : Nat → Bool} : ∀ (Ts : List Ty) (fs : List Field) (off n : Nat) (cs : List Value),
    shpL P Ts fs off = true → (∀ f ∈ fs, ∃ x, DataW.trod enc P W 0 sp true n f.type ((cs.drop f.offset).take (P.cellsOf f.type)) = some x) → off + Ty.sizes Ts ≤ cs.length →
    ∃ l, HasL Ts l ∧ RepL (memOf W) l ((cs.drop off).take (Ty.sizes Ts)) ∧ ∀ u ∈ (cs.drop off).take (Ty.sizes Ts), u.oneCell' = true
  | [], [], off, n, cs, _, _, _ => ⟨[], rfl, by simp [RepL, Ty.sizes], by simp [Ty.sizes]⟩
  | T :: r, f :: q, off, n, cs, hs, h, hl => by
    simp only [shpL, Bool.and_eq_true, beq_iff_eq] at hs
    obtain ⟨h1, h2, h3, h4⟩ := hs
    obtain ⟨x, hx⟩ := h f (List.mem_cons_self ..)
    rw [h1, h2] at hx
    simp only [Ty.sizes] at hl
    obtain ⟨a, a1, a2, a3⟩ := open_cells T f.type n _ x h3 hx
    obtain ⟨b, b1, b2, b3⟩ := open_list r q (off + T.size) n cs h4 (fun g hg => h g (List.mem_cons_of_mem _ hg)) (by omega)
    have e : (cs.drop off).take (Ty.sizes (T :: r)) = (cs.drop off).take T.size ++ (cs.drop (off + T.size)).take (Ty.sizes r) := by
      simp only [Ty.sizes]
      rw [List.take_add, List.drop_drop]
    refine ⟨a ++ b, ?_, ?_, ?_⟩
    · simp only [HasL]; exact ⟨a, b, rfl, a1, b1⟩
    · rw [e]; exact repL_append a2 b2
    · intro u hu
      rw [e] at hu
      rcases List.mem_append.1 hu with hu | hu
      · exact a3 u hu
      · exact b3 u hu
  | [], _ :: _, _, _, _, hs, _, _ => by simp [shpL] at hs
  | _ :: _, [], _, _, _, hs, _, _ => by simp [shpL] at hs
end
end Go.Proofs.Ytonlehebfeilmaa.K
