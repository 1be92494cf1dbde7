/- What an argument of a row is, as data: items, too. -/
import Derived.Test.YtonlehebfeilmaaPRlp
import Derived.ChangeArms
namespace Go.Proofs.Ytonlehebfeilmaa.K.R
open Go Go.RowKit Go.ChangeShapes Go.WideShapes Go.ChangeAt
set_option linter.unusedVariables false

variable {P : Program}

inductive Ty where
  | bool
  | int (k : IntKind)
  | str
  | slice (e : Ty)
  | st (l : List Ty)
  | arr (n : Nat) (e : Ty)
  | item

def Ty.isAgg : Ty → Bool
  | .st _ => true
  | .arr _ _ => true
  | .item => true
  | _ => false

mutual
def Ty.size : Ty → Nat
  | .st l => Ty.sizes l
  | .arr n e => n * e.size
  | .item => 3
  | _ => 1
def Ty.sizes : List Ty → Nat
  | [] => 0
  | t :: r => t.size + Ty.sizes r
end

mutual
/-- The cells l bear a datum of type T. -/
def HasC : Ty → List D → Prop
  | .bool, l => ∃ b, l = [.val (.bool b)]
  | .int k, l => ∃ n, l = [.val (.int k n)] ∧ (Lit.int k n).wf = true
  | .str, l => ∃ s : ByteArray, l = [.val (.string s)] ∧ s.size ≤ maxLen
  | .slice e, l => ∃ xs : List D, l = [.slice xs] ∧ xs.length ≤ maxLen ∧ ∀ x ∈ xs, HasC e x.cells ∧ (∃ c, x = .agg c) = (e.isAgg = true)
  | .st ts, l => HasL ts l
  | .arr n e, l => ∃ ls : List (List D), ls.length = n ∧ l = ls.flatten ∧ ∀ c ∈ ls, HasC e c
  | .item, l => ∃ (it : Item) (n : Nat), OKn n it ∧ l = cItem it
def HasL : List Ty → List D → Prop
  | [], l => l = []
  | t :: r, l => ∃ a b, l = a ++ b ∧ HasC t a ∧ HasL r b
end


/-- Type t of the program is the items' type. -/
def itemShape (P : Program) (t : TypeId) : Bool := match P.underlying t with
  | some (.struct fs) => (P.cellsOf t == 3) && (match fs.toList with
    | [f0, f1, f2] => (f0.offset == 0 && P.cellsOf f0.type == 1 && f1.offset == 1 && P.cellsOf f1.type == 1 && f2.offset == 2 && P.cellsOf f2.type == 1) && (match P.underlying f0.type, P.underlying f1.type, P.underlying f2.type with
      | some .bool, some .string, some (.slice u) => u == t
      | _, _, _ => false)
    | _ => false)
  | _ => false
theorem itemShape_spec {P : Program} {t : TypeId} (h : itemShape P t = true) : ∃ fs f0 f1 f2, P.underlying t = some (.struct fs) ∧ P.cellsOf t = 3 ∧ fs.toList = [f0, f1, f2] ∧ f0.offset = 0 ∧ P.cellsOf f0.type = 1 ∧ f1.offset = 1 ∧ P.cellsOf f1.type = 1 ∧ f2.offset = 2 ∧ P.cellsOf f2.type = 1 ∧
    P.underlying f0.type = some .bool ∧ P.underlying f1.type = some .string ∧ P.underlying f2.type = some (.slice t) := by
  unfold itemShape at h
  split at h
  · rename_i fs hu
    simp only [Bool.and_eq_true, beq_iff_eq] at h
    obtain ⟨h1, h2⟩ := h
    split at h2
    · rename_i f0 f1 f2 hf
      simp only [Bool.and_eq_true, beq_iff_eq] at h2
      obtain ⟨⟨⟨⟨⟨⟨a, b⟩, c⟩, d⟩, e⟩, f⟩, g⟩ := h2
      split at g
      · rename_i u k0 k1 k2
        have : u = t := by simpa using g
        subst this
        exact ⟨fs, f0, f1, f2, hu, h1, hf, a, b, c, d, e, f, k0, k1, k2⟩
      · cases g
    · cases h2
  · cases h

theorem build_items {m : Mem} {b : Nat} {Q : Item → Prop} : ∀ (n o : Nat),
    (∀ i, i < n → ∃ it vs, Q it ∧ RepL m (cItem it) vs ∧ vs.length = 3 ∧ ∀ j v, vs[j]? = some v → m b (o + i * 3 + j) = some v) →
    ∃ l : List Item, l.length = n ∧ RepE m b (l.map eItem) o ∧ ∀ x ∈ l, Q x := by
  intro n
  induction n with
  | zero => intro o _; exact ⟨[], rfl, by simp [RepE], by simp⟩
  | succ n ih =>
    intro o h
    obtain ⟨it, vs, h1, h2, h3, h4⟩ := h 0 (by omega)
    obtain ⟨xs, e1, e2, e3⟩ := ih (o + 3) (fun i hi => by
      obtain ⟨l', vs', k1, k2, k3, k4⟩ := h (i + 1) (by omega)
      refine ⟨l', vs', k1, k2, k3, fun j v hv => ?_⟩
      have := k4 j v hv
      rwa [show o + (i + 1) * 3 + j = o + 3 + i * 3 + j from by omega] at this)
    refine ⟨it :: xs, by simp [e1], ?_, ?_⟩
    · have hc : (eItem it).cells = cItem it := by rw [eItem_eq]; rfl
      rw [List.map_cons, repE_cons, hc, show (cItem it).length = 3 from rfl]
      refine ⟨repC_of_vals h2 fun j v hv => ?_, e2⟩
      have := h4 j v hv
      rwa [Nat.zero_mul, Nat.add_zero] at this
    · intro x hx
      rcases List.mem_cons.1 hx with rfl | hx
      · exact h1
      · exact e3 x hx

theorem open_item {H : Type} {enc : TypeId × Value → H} {W : World} {sp : Nat → Bool} {t : TypeId} (hs : itemShape P t = true) : ∀ (fuel : Nat) (cs : List Value) (x : DataW H × List MemPlace),
    DataW.trod enc P W 0 sp true fuel t cs = some x → ∃ it, OKn fuel it ∧ RepL (memOf W) (cItem it) cs ∧ ∀ u ∈ cs, u.oneCell' = true := by
  obtain ⟨fs, f0, f1, f2, hu, h3, hf, o0, z0, o1, z1, o2, z2, u0, u1, u2⟩ := itemShape_spec hs
  intro fuel
  induction fuel using Nat.strongRecOn with
  | _ fuel ih =>
    intro cs x h
    obtain ⟨xs, n, rfl, _, hl, hx, hget⟩ := DataW.trod_struct hu h
    have fsz : fs.size = 3 := by rw [← Array.length_toList, hf]; rfl
    have at' : ∀ (i : Nat) (f : Field), fs.toList[i]? = some f → ∃ y, DataW.trod enc P W 0 sp true n f.type ((cs.drop f.offset).take (P.cellsOf f.type)) = some y := by
      intro i f hi
      have hi' : fs[i]? = some f := by simpa using hi
      have := hget i f hi'
      have hlt : i < fs.size := (Array.getElem?_eq_some_iff.1 hi').1
      exact ⟨xs[i]'(by omega), by rw [this]; exact List.getElem?_eq_getElem (by omega)⟩
    obtain ⟨y0, t0⟩ := at' 0 f0 (by rw [hf]; rfl)
    obtain ⟨y1, t1⟩ := at' 1 f1 (by rw [hf]; rfl)
    obtain ⟨y2, t2⟩ := at' 2 f2 (by rw [hf]; rfl)
    rw [o0, z0] at t0
    rw [o1, z1] at t1
    rw [o2, z2] at t2
    rw [h3] at hl
    obtain ⟨c0, c1, c2, rfl⟩ : ∃ c0 c1 c2, cs = [c0, c1, c2] := by
      match cs, hl with
      | [a, b, c], _ => exact ⟨a, b, c, rfl⟩
    simp only [List.drop_zero, List.drop_succ_cons, List.take_succ_cons, List.take_zero] at t0 t1 t2
    obtain ⟨b, e0, _⟩ := DataW.trod_bool u0 t0
    obtain ⟨s, e1, _, hs⟩ := DataW.trod_string u1 t1
    obtain rfl : c0 = .bool b := by simpa using e0
    obtain rfl : c1 = .string s := by simpa using e1
    obtain ⟨⟨sb⟩⟩ := s
    rcases DataW.trod_slice u2 t2 with ⟨e2, _⟩ | ⟨a, len, cap, elems, rest, k, rfl, e2, _, _, hlc, hcm, hel, hget2, _⟩
    · obtain rfl : c2 = .slice none 0 0 := by simpa using e2
      refine ⟨⟨b, sb, []⟩, ⟨by simp, hs, by simp⟩, by simp only [cItem, RepL, RepD]; exact ⟨_, _, rfl, rfl, _, _, rfl, rfl, _, [], rfl, ⟨_, _, rfl, Nat.zero_le _, .inl rfl⟩, rfl⟩, by simp [Value.oneCell']⟩
    · obtain rfl : c2 = .slice (some a) len cap := by simpa using e2
      rw [h3] at hget2
      have each : ∀ i, i < len → ∃ csi xi, W.cells? 0 (a.add (i * 3)) 3 = some csi ∧ DataW.trod enc P W 0 sp true k t csi = some xi := by
        intro i hi
        have := hget2 i hi
        have hx : elems[i]? = some (elems[i]'(by omega)) := List.getElem?_eq_getElem (by omega)
        rw [hx, Option.bind_eq_some_iff] at this
        obtain ⟨csi, k1, k2⟩ := this
        exact ⟨csi, _, k1, k2⟩
      by_cases h0 : len = 0
      · subst h0
        refine ⟨⟨b, sb, []⟩, ⟨by simp, hs, by simp⟩, by simp only [cItem, RepL, RepD]; exact ⟨_, _, rfl, rfl, _, _, rfl, rfl, _, [], rfl, ⟨_, _, rfl, Nat.zero_le _, .inl rfl⟩, rfl⟩, by simp [Value.oneCell']⟩
      · have hspot : a.spot = none := by
          obtain ⟨csi, _, k1, _⟩ := each 0 (by omega)
          have := cells_spot k1 (by decide)
          simpa [Addr.add] using this
        obtain ⟨bl, o, sp'⟩ := a
        simp only at hspot
        subst hspot
        obtain ⟨l, e1, e2, e3⟩ := build_items (m := memOf W) (b := bl) (Q := OKn k) len o (fun i hi => by
          obtain ⟨csi, xi, k1, k2⟩ := each i hi
          obtain ⟨it, l1, l2, l3⟩ := ih k (by omega) csi xi k2
          rw [addr_add] at k1
          obtain ⟨k3, k4⟩ := cells_get k1
          exact ⟨it, csi, l1, l2, k3, fun j v hv => cell_memOf (k4 j v hv) (l3 v (List.mem_of_getElem? hv))⟩)
        have hlen : len ≤ maxLen := by omega
        refine ⟨⟨b, sb, l⟩, ⟨by show l.length ≤ maxLen; omega, hs, fun y hy => OKn.mono (e3 y hy) (by omega)⟩, ?_, by simp [Value.oneCell']⟩
        simp only [cItem, RepL, RepD]
        refine ⟨_, _, rfl, rfl, _, _, rfl, rfl, _, [], rfl, ⟨some ⟨bl, o, none⟩, cap, by rw [List.length_map, e1], by rw [List.length_map, e1]; exact hlc, .inr ⟨bl, o, rfl, e2⟩⟩, rfl⟩

mutual
/-- Type t of the program is of shape T. -/
def shp (P : Program) : Ty → TypeId → Bool
  | .bool, t => match P.underlying t with
    | some .bool => true
    | _ => false
  | .int k, t => match P.underlying t with
    | some (.int k') => k' == k
    | _ => false
  | .str, t => match P.underlying t with
    | some .string => true
    | _ => false
  | .slice e, t => match P.underlying t with
    | some (.slice u) => shp P e u && (P.cellsOf u == e.size && decide (0 < e.size))
    | _ => false
  | .st ts, t => match P.underlying t with
    | some (.struct fs) => (P.cellsOf t == Ty.sizes ts) && shpL P ts fs.toList 0
    | _ => false
  | .arr n e, t => match P.underlying t with
    | some (.array k u) => (k == n) && (shp P e u && (P.cellsOf u == e.size && P.cellsOf t == n * e.size))
    | _ => false
  | .item, t => itemShape P t
def shpL (P : Program) : List Ty → List Field → Nat → Bool
  | [], [], _ => true
  | T :: r, f :: q, off => (f.offset == off) && ((P.cellsOf f.type == T.size) && (shp P T f.type && shpL P r q (off + T.size)))
  | _, _, _ => false
end

/-- The datum whose cells are l. -/
def wrapD (e : Ty) (l : List D) : D := if e.isAgg then .agg l else l.headD default

theorem wrapD_cells {e : Ty} {l : List D} (h : HasC e l) : (wrapD e l).cells = l := by
  cases e <;> simp only [HasC] at h <;> simp only [wrapD, Ty.isAgg, if_true, Bool.false_eq_true, if_false]
  · obtain ⟨b, rfl⟩ := h; rfl
  · obtain ⟨n, rfl, _⟩ := h; rfl
  · obtain ⟨n, rfl, _⟩ := h; rfl
  · obtain ⟨n, rfl, _⟩ := h; rfl
  · rfl
  · rfl
  · rfl

theorem wrapD_agg {e : Ty} {l : List D} (h : HasC e l) : (∃ c, wrapD e l = .agg c) = (e.isAgg = true) := by
  cases e <;> simp only [HasC] at h <;> simp only [wrapD, Ty.isAgg, if_true, Bool.false_eq_true, if_false]
  · obtain ⟨b, rfl⟩ := h; simp
  · obtain ⟨n, rfl, _⟩ := h; simp
  · obtain ⟨n, rfl, _⟩ := h; simp
  · obtain ⟨n, rfl, _⟩ := h; simp
  · simp
  · simp
  · simp

theorem trod_array {H : Type} {enc : TypeId × Value → H} {w : World} {base : Nat} {sp : Nat → Bool} {held : Bool} {fuel : Nat} {t e : TypeId} {n : Nat} {cs : List Value} {x : DataW H × List MemPlace} (ht : P.underlying t = some (.array n e))
    (h : DataW.trod enc P w base sp held fuel t cs = some x) :
    ∃ (xs : List (DataW H × List MemPlace)) (k : Nat), fuel = k + 1 ∧ cs.length = P.cellsOf t ∧ xs.length = n ∧ ∀ i, i < n → DataW.trod enc P w base sp held k e ((cs.drop (i * P.cellsOf e)).take (P.cellsOf e)) = xs[i]? := by
  cases fuel with
  | zero => simp [DataW.trod] at h
  | succ k =>
    unfold DataW.trod at h
    rw [ht] at h
    split at h <;> simp_all
    obtain ⟨hl, xs, hp, hd⟩ := h
    exact ⟨xs, by simpa using mapM_some_length hp, fun i hi => mapM_some_get hp i i (by simp [hi])⟩

theorem cell_memOf {W : World} {b o : Nat} {v : Value} (h : W.cell? ⟨b, o, none⟩ = some v) (h1 : v.oneCell' = true) : memOf W b o = some v := by
  unfold memOf
  rw [h]
  simp [h1]

theorem split_arr {m : Mem} {e : Ty} {sz : Nat} : ∀ (n : Nat) (cs : List Value), cs.length = n * sz →
    (∀ i, i < n → ∃ l, HasC e l ∧ RepL m l ((cs.drop (i * sz)).take sz) ∧ ∀ u ∈ (cs.drop (i * sz)).take sz, u.oneCell' = true) →
    ∃ ls : List (List D), ls.length = n ∧ (∀ c ∈ ls, HasC e c) ∧ RepL m ls.flatten cs ∧ ∀ u ∈ cs, u.oneCell' = true := by
  intro n
  induction n with
  | zero =>
    intro cs hl _
    have : cs = [] := by simpa using hl
    subst this
    exact ⟨[], rfl, by simp, by simp [RepL], by simp⟩
  | succ n ih =>
    intro cs hl h
    obtain ⟨l, h1, h2, h3⟩ := h 0 (by omega)
    simp only [Nat.zero_mul, List.drop_zero] at h2 h3
    have hlen : (cs.drop sz).length = n * sz := by
      rw [List.length_drop, hl, Nat.succ_mul]
      omega
    obtain ⟨ls, e1, e2, e3, e4⟩ := ih (cs.drop sz) hlen (fun i hi => by
      have := h (i + 1) (by omega)
      rw [Nat.succ_mul] at this
      rw [List.drop_drop]
      rwa [Nat.add_comm sz (i * sz)])
    refine ⟨l :: ls, by simp [e1], ?_, ?_, ?_⟩
    · intro c hc
      rcases List.mem_cons.1 hc with rfl | hc
      · exact h1
      · exact e2 c hc
    · rw [List.flatten_cons, ← List.take_append_drop sz cs]
      exact repL_append h2 e3
    · intro u hu
      rw [← List.take_append_drop sz cs] at hu
      rcases List.mem_append.1 hu with hu | hu
      · exact h3 u hu
      · exact e4 u hu

theorem build_row {m : Mem} {b : Nat} {e : Ty} {sz : Nat} : ∀ (n o : Nat),
    (∀ i, i < n → ∃ l vs, HasC e l ∧ RepL m l vs ∧ vs.length = sz ∧ ∀ j v, vs[j]? = some v → m b (o + i * sz + j) = some v) →
    ∃ xs : List D, xs.length = n ∧ RepE m b xs o ∧ ∀ x ∈ xs, HasC e x.cells ∧ (∃ c, x = .agg c) = (e.isAgg = true) := by
  intro n
  induction n with
  | zero => intro o _; exact ⟨[], rfl, by simp [RepE], by simp⟩
  | succ n ih =>
    intro o h
    obtain ⟨l, vs, h1, h2, h3, h4⟩ := h 0 (by omega)
    obtain ⟨xs, e1, e2, e3⟩ := ih (o + sz) (fun i hi => by
      obtain ⟨l', vs', k1, k2, k3, k4⟩ := h (i + 1) (by omega)
      refine ⟨l', vs', k1, k2, k3, fun j v hv => ?_⟩
      have := k4 j v hv
      rw [Nat.succ_mul] at this
      rwa [show o + sz + i * sz + j = o + (i * sz + sz) + j from by omega])
    have hc := wrapD_cells h1
    have hlen : l.length = sz := by rw [← repL_len h2]; exact h3
    refine ⟨wrapD e l :: xs, by simp [e1], ?_, ?_⟩
    · rw [repE_cons, hc, hlen]
      refine ⟨repC_of_vals h2 fun j v hv => ?_, e2⟩
      have := h4 j v hv
      rwa [Nat.zero_mul, Nat.add_zero] at this
    · intro x hx
      rcases List.mem_cons.1 hx with rfl | hx
      · rw [hc]; exact ⟨h1, wrapD_agg h1⟩
      · exact e3 x hx

theorem cells_spot {W : World} {base : Nat} {a : Addr} {n : Nat} {cs : List Value} (h : W.cells? base a n = some cs) (hn : 0 < n) : a.spot = none := by
  unfold World.cells? at h
  split at h
  · have h0 := mapM_some_get h 0 0 (by simp [hn])
    have hl := mapM_some_length h
    simp only [List.length_range] at hl
    have : cs[0]? ≠ none := fun hc => by have := List.getElem?_eq_none_iff.1 hc; omega
    rw [← h0] at this
    cases hs : a.spot with
    | none => rfl
    | some s =>
      refine absurd ?_ this
      have : a.add 0 = a := by simp [Addr.add]
      rw [this]
      simp only [World.cell?]
      split
      · simp [hs]
      · rfl
  · cases h

theorem cells_get {W : World} {base b o n : Nat} {cs : List Value} (h : W.cells? base ⟨b, o, none⟩ n = some cs) : cs.length = n ∧ ∀ j v, cs[j]? = some v → W.cell? ⟨b, o + j, none⟩ = some v := by
  unfold World.cells? at h
  split at h
  · have hl := mapM_some_length h
    simp only [List.length_range] at hl
    refine ⟨hl, fun j v hv => ?_⟩
    have hj : j < n := by
      have := (List.getElem?_eq_some_iff.1 hv).1
      omega
    have := mapM_some_get h j j (by simp [hj])
    rw [addr_add] at this
    rw [this, hv]
  · cases h

mutual
theorem open_cells {H : Type} {enc : TypeId × Value → H} {W : World} {sp : Nat → Bool} : ∀ (T : Ty) (t : TypeId) (fuel : Nat) (cs : List Value) (x : DataW H × List MemPlace),
    shp P T t = true → DataW.trod enc P W 0 sp true fuel t cs = some x → ∃ l, HasC T l ∧ RepL (memOf W) l cs ∧ ∀ u ∈ cs, u.oneCell' = true
  | .bool, t, fuel, cs, x, hs, h => by
    simp only [shp] at hs
    split at hs
    · rename_i hu
      obtain ⟨b, rfl, _⟩ := DataW.trod_bool hu h
      exact ⟨_, ⟨b, rfl⟩, by simp [RepL, RepD], by simp [Value.oneCell']⟩
    · cases hs
  | .int k, t, fuel, cs, x, hs, h => by
    simp only [shp] at hs
    split at hs
    · rename_i k' hu
      have hk : k' = k := by simpa using hs
      subst hk
      obtain ⟨n, rfl, _, hw⟩ := DataW.trod_int hu h
      exact ⟨_, ⟨n, rfl, hw⟩, by simp [RepL, RepD], by simp [Value.oneCell']⟩
    · cases hs
  | .str, t, fuel, cs, x, hs, h => by
    simp only [shp] at hs
    split at hs
    · rename_i hu
      obtain ⟨s, rfl, _, hw⟩ := DataW.trod_string hu h
      exact ⟨_, ⟨s, rfl, hw⟩, by simp [RepL, RepD], by simp [Value.oneCell']⟩
    · cases hs
  | .slice e, t, fuel, cs, x, hs, h => by
    simp only [shp] at hs
    split at hs
    · rename_i u hu
      simp only [Bool.and_eq_true, beq_iff_eq, decide_eq_true_eq] at hs
      obtain ⟨h1, h2, h3⟩ := hs
      rcases DataW.trod_slice hu h with ⟨rfl, _⟩ | ⟨a, len, cap, elems, rest, n, rfl, rfl, _, _, hlc, hcm, hel, hget, _⟩
      · exact ⟨_, ⟨[], rfl, by simp, by simp⟩, by simp [RepL, RepD], by simp [Value.oneCell']⟩
      · rw [h2] at hget
        have each : ∀ i, i < len → ∃ csi xi, W.cells? 0 (a.add (i * e.size)) e.size = some csi ∧ DataW.trod enc P W 0 sp true n u csi = some xi := by
          intro i hi
          have := hget i hi
          have hx : elems[i]? = some (elems[i]'(by omega)) := List.getElem?_eq_getElem (by omega)
          rw [hx, Option.bind_eq_some_iff] at this
          obtain ⟨csi, k1, k2⟩ := this
          exact ⟨csi, _, k1, k2⟩
        by_cases h0 : len = 0
        · subst h0
          exact ⟨_, ⟨[], rfl, by simp, by simp⟩, by simp [RepL, RepD], by simp [Value.oneCell']⟩
        · have hspot : a.spot = none := by
            obtain ⟨csi, _, k1, _⟩ := each 0 (by omega)
            have := cells_spot k1 h3
            simpa [Addr.add] using this
          obtain ⟨b, o, s⟩ := a
          simp only at hspot
          subst hspot
          obtain ⟨xs, e1, e2, e3⟩ := build_row (m := memOf W) (b := b) (e := e) (sz := e.size) len o (fun i hi => by
            obtain ⟨csi, xi, k1, k2⟩ := each i hi
            obtain ⟨l, l1, l2, l3⟩ := open_cells e u n csi xi h1 k2
            rw [addr_add] at k1
            obtain ⟨k3, k4⟩ := cells_get k1
            exact ⟨l, csi, l1, l2, k3, fun j v hv => cell_memOf (k4 j v hv) (l3 v (List.mem_of_getElem? hv))⟩)
          refine ⟨[.slice xs], ⟨xs, rfl, by omega, e3⟩, ?_, by simp [Value.oneCell']⟩
          simp only [RepL, RepD]
          exact ⟨_, [], rfl, ⟨some ⟨b, o, none⟩, cap, by rw [e1], by omega, .inr ⟨b, o, rfl, e2⟩⟩, rfl⟩
    · cases hs
  | .st ts, t, fuel, cs, x, hs, h => by
    simp only [shp] at hs
    split at hs
    · rename_i fs hu
      simp only [Bool.and_eq_true, beq_iff_eq] at hs
      obtain ⟨h1, h2⟩ := hs
      obtain ⟨xs, n, rfl, _, hl, hx, hget⟩ := DataW.trod_struct hu h
      obtain ⟨l, l1, l2, l3⟩ := open_list ts fs.toList 0 n cs h2 (fun f hf => by
        obtain ⟨i, hi⟩ := List.mem_iff_getElem?.1 hf
        have hi' : fs[i]? = some f := by simpa using hi
        have := hget i f hi'
        have hlt : i < fs.size := (Array.getElem?_eq_some_iff.1 hi').1
        exact ⟨xs[i]'(by omega), by rw [this]; exact List.getElem?_eq_getElem (by omega)⟩) (by omega)
      have e : (cs.drop 0).take (Ty.sizes ts) = cs := by rw [List.drop_zero, List.take_of_length_le (by omega)]
      rw [e] at l2 l3
      exact ⟨l, by simpa only [HasC] using l1, l2, l3⟩
    · cases hs
  | .arr k e, t, fuel, cs, x, hs, h => by
    simp only [shp] at hs
    split at hs
    · rename_i k' u hu
      simp only [Bool.and_eq_true, beq_iff_eq] at hs
      obtain ⟨rfl, h1, h2, h3⟩ := hs
      obtain ⟨xs, n, rfl, hl, hx, hget⟩ := trod_array hu h
      rw [h2] at hget
      obtain ⟨ls, e1, e2, e3, e4⟩ := split_arr (m := memOf W) (e := e) (sz := e.size) k' cs (by omega) (fun i hi => by
        have := hget i hi
        rw [List.getElem?_eq_getElem (by omega)] at this
        exact open_cells e u n _ _ h1 this)
      exact ⟨_, ⟨ls, e1, rfl, e2⟩, e3, e4⟩
    · cases hs
  | .item, t, fuel, cs, x, hs, h => by
    simp only [shp] at hs
    obtain ⟨it, h1, h2, h3⟩ := open_item hs fuel cs x h
    exact ⟨_, ⟨it, _, h1, rfl⟩, h2, h3⟩
theorem open_list {H : Type} {enc : TypeId × Value → H} {W : World} {sp : Nat → Bool} : ∀ (Ts : List Ty) (fs : List Field) (off n : Nat) (cs : List Value),
    shpL P Ts fs off = true → (∀ f ∈ fs, ∃ x, DataW.trod enc P W 0 sp true n f.type ((cs.drop f.offset).take (P.cellsOf f.type)) = some x) → off + Ty.sizes Ts ≤ cs.length →
    ∃ l, HasL Ts l ∧ RepL (memOf W) l ((cs.drop off).take (Ty.sizes Ts)) ∧ ∀ u ∈ (cs.drop off).take (Ty.sizes Ts), u.oneCell' = true
  | [], [], off, n, cs, _, _, _ => ⟨[], rfl, by simp [RepL, Ty.sizes], by simp [Ty.sizes]⟩
  | T :: r, f :: q, off, n, cs, hs, h, hl => by
    simp only [shpL, Bool.and_eq_true, beq_iff_eq] at hs
    obtain ⟨h1, h2, h3, h4⟩ := hs
    obtain ⟨x, hx⟩ := h f (List.mem_cons_self ..)
    rw [h1, h2] at hx
    simp only [Ty.sizes] at hl
    obtain ⟨a, a1, a2, a3⟩ := open_cells T f.type n _ x h3 hx
    obtain ⟨b, b1, b2, b3⟩ := open_list r q (off + T.size) n cs h4 (fun g hg => h g (List.mem_cons_of_mem _ hg)) (by omega)
    have e : (cs.drop off).take (Ty.sizes (T :: r)) = (cs.drop off).take T.size ++ (cs.drop (off + T.size)).take (Ty.sizes r) := by
      simp only [Ty.sizes]
      rw [List.take_add, List.drop_drop]
    refine ⟨a ++ b, ?_, ?_, ?_⟩
    · simp only [HasL]; exact ⟨a, b, rfl, a1, b1⟩
    · rw [e]; exact repL_append a2 b2
    · intro u hu
      rw [e] at hu
      rcases List.mem_append.1 hu with hu | hu
      · exact a3 u hu
      · exact b3 u hu
  | [], _ :: _, _, _, _, hs, _, _ => by simp [shpL] at hs
  | _ :: _, [], _, _, _, hs, _, _ => by simp [shpL] at hs
end
theorem notAgg {W : World} {r : Reach} {b0 : Nat} {t : TypeId} {v : Value} {T : Ty} (hT : T.isAgg = false) (hs : shp P T t = true) (hv : Value.okWide P W r b0 t v) : v.cells.toList = [v] := by
  have key : ∀ cs, v ≠ .agg cs := by
    intro cs e
    subst e
    cases T <;> simp only [Ty.isAgg, Bool.true_eq_false] at hT <;> simp only [shp] at hs <;> split at hs <;> first | (cases hs; done) | (rename_i hu; simp [Value.okWide, hu, Cell.okWide, Cell.ok] at hv)
  cases v <;> simp_all [Value.cells]

theorem open_arg {H : Type} {enc : TypeId × Value → H} {W : World} {sp : Nat → Bool} {r : Reach} {b0 : Nat} {t : TypeId} {v : Value} {d : DataW H} {ps : List MemPlace} (T : Ty) (hs : shp P T t = true) (hv : Value.okWide P W r b0 t v) (h : DataW.Trod enc P W 0 sp true t v d ps) :
    ∃ l, HasC T l ∧ RepD (memOf W) (wrapD T l) v := by
  obtain ⟨fuel, h⟩ := h
  obtain ⟨l, h1, h2, h3⟩ := open_cells T t fuel _ _ hs h
  refine ⟨l, h1, ?_⟩
  cases hT : T.isAgg with
  | true =>
    have : ∃ cs, v = .agg cs := by
      cases T <;> simp only [Ty.isAgg, Bool.false_eq_true] at hT <;> simp only [shp] at hs <;> first | (obtain ⟨fs, _, _, _, hu, _⟩ := itemShape_spec hs; simp only [Value.okWide, hu] at hv; obtain ⟨cs, e, _⟩ := hv; exact ⟨cs, e⟩; done) | (split at hs <;> first | (cases hs; done) | (rename_i hu; simp only [Value.okWide, hu] at hv; obtain ⟨cs, e, _⟩ := hv; exact ⟨cs, e⟩))
    obtain ⟨cs, rfl⟩ := this
    simp only [wrapD, hT, if_true, RepD]
    exact ⟨cs.toList, rfl, by simpa [Value.cells] using h2, by simpa [Value.cells] using h3⟩
  | false =>
    have hc := notAgg hT hs hv
    rw [hc] at h2
    have hw := wrapD_cells h1
    simp only [wrapD, hT, Bool.false_eq_true, if_false] at hw ⊢
    cases l with
    | nil => simp [RepL] at h2
    | cons x q =>
      simp only [RepL] at h2
      obtain ⟨v', vr, e, e1, e2⟩ := h2
      simp only [List.cons.injEq] at e
      obtain ⟨rfl, _⟩ := e
      simpa using e1

end Go.Proofs.Ytonlehebfeilmaa.K.R
