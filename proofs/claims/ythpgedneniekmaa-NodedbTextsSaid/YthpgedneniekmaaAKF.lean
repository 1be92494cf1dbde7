import Derived.Test.YthpgedneniekmaaAKE
/- Structs and arrays held against each other. -/
namespace Go.Proofs.Ythpgedneniekmaa.K
open Go Go.RowKit
set_option linter.unusedVariables false
set_option linter.unusedSimpArgs false
set_option linter.unusedSectionVars false
variable {P : Program}
def EqV (P : Program) (d : Nat) (t : TypeId) (n : Nat) (cx cy : List D) (b : Bool) : Prop :=
  cx.length = n ∧ cy.length = n ∧ ∀ (m : Mem) (w : World) (off : Nat) (pre pre' suf suf' vs us : List Value), RepL m cx vs → RepL m cy us → pre.length = off → pre'.length = off →
    ∃ x y, (part t ⟨pre ++ (vs ++ suf)⟩ off).run P w = .ok x w ∧ (part t ⟨pre' ++ (us ++ suf')⟩ off).run P w = .ok y w ∧ (Op.equalIn d t x y).run P w = .ok b w
def EqA (P : Program) (d : Nat) (t : TypeId) (cx cy : List D) (b : Bool) : Prop :=
  ∀ (m : Mem) (w : World) (vs us : List Value), RepL m cx vs → RepL m cy us → (Op.equalIn d t (.agg ⟨vs⟩) (.agg ⟨us⟩)).run P w = .ok b w
theorem EqA.run {t : TypeId} {cx cy : List D} {b : Bool} (h : EqA P (9999 + 1) t cx cy b) (hg : P.eqGuardType P.depth t = false) : EqRun P t (.agg cx) (.agg cy) b := by
  refine ⟨hg, fun m w v u hv hu => ?_⟩
  simp only [RepD] at hv hu
  obtain ⟨vs, rfl, h1, _⟩ := hv
  obtain ⟨us, rfl, h2, _⟩ := hu
  exact ⟨_, _, rfl, rfl, h m w vs us h1 h2⟩
theorem EqV.cell {d : Nat} {t : TypeId} {x y : D} {b : Bool} (ht : tyA P t = some (false, 1)) (h : ∀ m w v u, RepD m x v → RepD m y u → (Op.equalIn d t v u).run P w = .ok b w) : EqV P d t 1 [x] [y] b := by
  refine ⟨rfl, rfl, fun m w off pre pre' suf suf' vs us hv hu hp hp' => ?_⟩
  simp only [RepL] at hv hu
  obtain ⟨v, vr, rfl, h1, rfl⟩ := hv
  obtain ⟨u, ur, rfl, h2, rfl⟩ := hu
  have e1 : (part t ⟨pre ++ ([v] ++ suf)⟩ off).run P w = .ok v w := by
    have : (pre ++ v :: suf)[off]? = some v := by subst hp; simp
    simp [part, (tyA_spec ht w).1, this]
  have e2 : (part t ⟨pre' ++ ([u] ++ suf')⟩ off).run P w = .ok u w := by
    have : (pre' ++ u :: suf')[off]? = some u := by subst hp'; simp
    simp [part, (tyA_spec ht w).1, this]
  exact ⟨v, u, e1, e2, h m w v u h1 h2⟩
theorem EqV.agg {d n : Nat} {t : TypeId} {cx cy : List D} {b : Bool} (ht : tyA P t = some (true, n)) (hx : cx.length = n) (hy : cy.length = n) (h : EqA P d t cx cy b) : EqV P d t n cx cy b := by
  refine ⟨hx, hy, fun m w off pre pre' suf suf' vs us hv hu hp hp' => ?_⟩
  have l1 := repL_len hv
  have l2 := repL_len hu
  have ext : ∀ (p s : List Value) (c : List Value), p.length = off → c.length = n → (part t ⟨p ++ (c ++ s)⟩ off).run P w = .ok (.agg ⟨c⟩) w := by
    intro p s c h1 h2
    have e : ((p ++ (c ++ s)).drop off).take n = c := by
      subst h1; subst h2
      simp
    simp [part, (tyA_spec ht w).1, (tyA_spec ht w).2, e]
  exact ⟨_, _, ext pre suf vs hp (by omega), ext pre' suf' us hp' (by omega), h m w vs us hv hu⟩
theorem EqV.int {d : Nat} {t : TypeId} {k kd : IntKind} {a b : Int} (ht : tyA P t = some (false, 1)) (hu : P.underlying t = some (.int k)) : EqV P (d + 1) t 1 [.val (.int kd a)] [.val (.int kd b)] (decide (a = b)) :=
  EqV.cell ht fun m w v u h1 h2 => by
    simp only [RepD] at h1 h2
    rw [h1, h2, run_equalIn_int w d t _ _ _ _ hu]
    congr 1
theorem EqV.str {d : Nat} {t : TypeId} {a b : List UInt8} (ht : tyA P t = some (false, 1)) (hu : P.underlying t = some .string) : EqV P (d + 1) t 1 [.val (sV a)] [.val (sV b)] (a == b) :=
  EqV.cell ht fun m w v u h1 h2 => by
    simp only [RepD] at h1 h2
    rw [h1, h2]
    have : ((⟨a.toArray⟩ : ByteArray) == ⟨b.toArray⟩) = (a == b) := by
      rw [beq_toListBytes, str_toList, str_toList]
    simp [Op.equalIn, run_underlying hu, this]
def FE (P : Program) (d off : Nat) (L : List (Bool × Nat × TypeId)) (cx cy : List D) (b : Bool) : Prop :=
  ∀ fs : List Field, (fs.map fun f => (f.name != "_", f.offset, f.type)) = L → ∀ (m : Mem) (w : World) (pre pre' vs us : List Value), RepL m cx vs → RepL m cy us → pre.length = off → pre'.length = off →
    (Op.eqFields d ⟨pre ++ vs⟩ ⟨pre' ++ us⟩ fs).run P w = .ok b w
theorem FE.nil {d off : Nat} {cx cy : List D} : FE P d off [] cx cy true := by
  intro fs hf
  have : fs = [] := List.map_eq_nil_iff.1 hf
  subst this
  intro m w pre pre' vs us _ _ _ _
  rfl
theorem repL_split {m : Mem} : ∀ {a c : List D} {vs : List Value}, RepL m (a ++ c) vs → ∃ x y, vs = x ++ y ∧ RepL m a x ∧ RepL m c y
  | [], c, vs, h => ⟨[], vs, rfl, by simp [RepL], h⟩
  | x :: a, c, vs, h => by
    simp only [List.cons_append, RepL] at h
    obtain ⟨v, vr, rfl, h1, h2⟩ := h
    obtain ⟨p, q, rfl, h3, h4⟩ := repL_split h2
    exact ⟨v :: p, q, rfl, by simp only [RepL]; exact ⟨v, p, rfl, h1, h3⟩, h4⟩
theorem FE.cons {d off n : Nat} {t : TypeId} {L : List (Bool × Nat × TypeId)} {a a' c c' : List D} {b b' : Bool} (h : EqV P d t n a a' b) (k : FE P d (off + n) L c c' b') : FE P d off ((true, off, t) :: L) (a ++ c) (a' ++ c') (b && b') := by
  intro fs hf m w pre pre' vs us hv hu hp hp'
  cases fs with
  | nil => simp at hf
  | cons f fs =>
    simp only [List.map_cons, List.cons.injEq, Prod.mk.injEq] at hf
    obtain ⟨⟨f1, f2, f3⟩, hf⟩ := hf
    have f1 : f.name ≠ "_" := by simpa using f1
    obtain ⟨v1, v2, rfl, h1, h2⟩ := repL_split hv
    obtain ⟨u1, u2, rfl, g1, g2⟩ := repL_split hu
    obtain ⟨l1, l2, hh⟩ := h
    obtain ⟨x, y, e1, e2, e3⟩ := hh m w off pre pre' v2 u2 v1 u1 h1 g1 hp hp'
    have ih := k fs hf m w (pre ++ v1) (pre' ++ u1) v2 u2 h2 g2 (by rw [List.length_append, repL_len h1, l1, hp]) (by rw [List.length_append, repL_len g1, l2, hp'])
    rw [List.append_assoc, List.append_assoc] at ih
    rw [← f2] at e1 e2
    rw [← f3] at e1 e2 e3
    simp only [Op.eqFields, f1, ne_eq, not_false_eq_true, if_true, Sem.run_bind, e1, e2, e3, Result.andThen_ok]
    cases b
    · simp
    · simpa using ih
def fldsE (P : Program) (t : TypeId) : List (Bool × Nat × TypeId) := (P.fieldsOf t).toList.map fun f => (f.name != "_", f.offset, f.type)
def strE (P : Program) (t : TypeId) : Bool := match P.underlying t with
  | some (.struct _) => !P.stoodInHeld t
  | _ => false
theorem EqA.struct {d : Nat} {t : TypeId} {L : List (Bool × Nat × TypeId)} {cx cy : List D} {b : Bool} (hs : strE P t = true) (hL : fldsE P t = L) (h : FE P d 0 L cx cy b) : EqA P (d + 1) t cx cy b := by
  intro m w vs us hv hu
  unfold strE at hs
  split at hs
  · rename_i fs hfs
    have hst : P.underlying t = some (.struct (P.fieldsOf t)) := by rw [Program.fieldsOf, hfs]
    rw [run_equalIn_struct w d t _ _ hst (by simpa using hs)]
    exact h _ hL m w [] [] vs us hv hu rfl rfl
  · cases hs
theorem eqItems_en {α : Type} [BEq α] [LawfulBEq α] {en : α → D} {e : TypeId} {d : Nat} {m : Mem} {w : World} (h : ∀ x y, EqV P d e 1 [en x] [en y] (x == y)) : ∀ (a b : List α) (pa pb vs us : List Value), a.length = b.length → pa.length = pb.length → RepL m (a.map en) vs → RepL m (b.map en) us →
    (Op.eqItems d e 1 ⟨pa ++ vs⟩ ⟨pb ++ us⟩ (List.range' pa.length a.length)).run P w = .ok (a == b) w
  | [], [], pa, pb, vs, us, _, _, _, _ => rfl
  | x :: a, y :: b, pa, pb, vs, us, hl, hp, hv, hu => by
    have hv' : RepL m ([en x] ++ a.map en) vs := hv
    have hu' : RepL m ([en y] ++ b.map en) us := hu
    obtain ⟨v1, v2, rfl, h1, h2⟩ := repL_split hv'
    obtain ⟨u1, u2, rfl, g1, g2⟩ := repL_split hu'
    obtain ⟨_, _, hh⟩ := h x y
    obtain ⟨p, q, e1, e2, e3⟩ := hh m w pa.length pa pb v2 u2 v1 u1 h1 g1 rfl hp.symm
    have ih := eqItems_en (w := w) h a b (pa ++ v1) (pb ++ u1) v2 u2 (by simpa using hl) (by rw [List.length_append, List.length_append, repL_len h1, repL_len g1, hp]; rfl) h2 g2
    rw [List.append_assoc, List.append_assoc, List.length_append, repL_len h1] at ih
    simp only [List.length_cons, List.length_nil, Nat.zero_add] at ih
    simp only [List.length_cons, List.range'_succ, Op.eqItems, Sem.run_bind, Nat.mul_one, e1, e2, e3, Result.andThen_ok]
    by_cases hx : x = y
    · subst hx
      simp only [beq_self_eq_true, Bool.not_true, Bool.false_eq_true, if_false]
      rw [ih]
      simp
    · have h1 : (x == y) = false := by rw [beq_eq_false_iff_ne]; exact hx
      have h2 : (x :: a == y :: b) = false := by simp [hx]
      rw [h1, h2]
      rfl
  | [], _ :: _, _, _, _, _, hl, _, _, _ => by simp at hl
  | _ :: _, [], _, _, _, _, hl, _, _, _ => by simp at hl
def arrE (P : Program) (t : TypeId) (n : Nat) (e : TypeId) : Bool := match P.underlying t with
  | some (.array n' e') => n == n' && e == e' && (match P.info? e with | some _ => P.cellsOf e == 1 | none => false)
  | _ => false
theorem EqA.arr {α : Type} [BEq α] [LawfulBEq α] {en : α → D} {e t : TypeId} {d n : Nat} (ht : arrE P t n e = true) (h : ∀ x y, EqV P d e 1 [en x] [en y] (x == y)) (a b : Arr n α) : EqA P (d + 1) t (a.1.map en) (b.1.map en) (a.1 == b.1) := by
  intro m w vs us hv hu
  unfold arrE at ht
  split at ht
  · rename_i n' e' hu'
    simp only [Bool.and_eq_true, beq_iff_eq] at ht
    obtain ⟨⟨rfl, rfl⟩, ht⟩ := ht
    split at ht
    · rename_i i hi
      have hc : P.cellsOf e = 1 := by simpa using ht
      rw [run_equalIn_array w d _ _ hu' hi, hc, List.range_eq_range']
      have := eqItems_en (P := P) (m := m) (w := w) h a.1 b.1 [] [] vs us (by rw [a.2, b.2]) rfl hv hu
      rw [a.2] at this
      exact this
    · cases ht
  · cases ht
end Go.Proofs.Ythpgedneniekmaa.K
