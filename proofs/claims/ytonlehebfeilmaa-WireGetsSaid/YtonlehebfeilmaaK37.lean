/- Recursive reckonings; sums that may wrap; items as arguments. -/
import Derived.Test.YtonlehebfeilmaaK36
namespace Go.Proofs.Ytonlehebfeilmaa.K
open Go Go.RowKit

/-! ### What a reckoning with more and more fuel comes to -/
open Classical in
noncomputable def theR {α : Type} (f : Nat → Option α) : Option α := if h : ∃ r, ∃ n, ∀ m, n ≤ m → f m = some r then some (Classical.choose h) else none
theorem theR_get {α : Type} {f : Nat → Option α} {r : α} (h : theR f = some r) : ∃ n, f n = some r := by
  unfold theR at h
  split at h
  · rename_i hx
    cases h
    obtain ⟨n, hn⟩ := Classical.choose_spec hx
    exact ⟨n, hn n (Nat.le_refl n)⟩
  · cases h
theorem theR_eq {α : Type} {f : Nat → Option α} {r : α} (n : Nat) (h : ∀ m, n ≤ m → f m = some r) : theR f = some r := by
  unfold theR
  have hx : ∃ r, ∃ n, ∀ m, n ≤ m → f m = some r := ⟨r, n, h⟩
  rw [dif_pos hx]
  obtain ⟨k, hk⟩ := Classical.choose_spec hx
  have h1 := hk (max n k) (Nat.le_max_right n k)
  have h2 := h (max n k) (Nat.le_max_left n k)
  rw [h2] at h1
  exact h1.symm

section
variable {P : Program} {frz : List Nat} {o : Oper} {S : Nat → PV} {H : HM} {nx : Nat} {df : List (Nat × List PV)} {k : PV → HM → Nat → List Nat → List Nat → Prop}
/-- A sum of whole numbers, which may wrap. -/
def wI (n : Int) : Int := IntKind.i64.wrap n
theorem wI_in {n : Int} (h : inI n) : wI n = n := wrap_in h
theorem sf_wadd {t u : TypeId} {x y : Operand} {a b : Int} (ho : o.op = .binOp .add t x y u) (hx : evP S x = .d (.val (.int .i64 a))) (hy : evP S y = .d (.val (.int .i64 b))) (hk : k (.d (.val (.int .i64 (wI (a + b))))) H nx [] []) : stepF P frz o ⟨S, H, nx, df⟩ k :=
  sf_bin ho hx hy rfl rfl rfl hk
end

/-! ### The order of a drawn region's operations, exactly -/
def clash (a b : Rec) : Bool := b.T.any (fun x => a.W.any (· == x) || (Nat.ble a.lo x && Nat.blt x a.hi)) || a.T.any (fun x => b.W.any (· == x))
def recsB (M : List Nat) (L : List Rec) : Bool := (List.range L.length).all fun j => (List.range j).all fun i =>
  match L[i]?, L[j]? with
  | some a, some b => !(clash a b) || (M.getD j 0).testBit i
  | _, _ => true
theorem RecsOK.comp {M : List Nat} {L : List Rec} (h : recsB M L = true) : RecsOK M L := by
  intro i j a b hij ha hb hx
  have hj : j < L.length := (List.getElem?_eq_some_iff.1 hb).1
  have key := List.all_eq_true.1 (List.all_eq_true.1 h j (List.mem_range.2 hj)) i (List.mem_range.2 hij)
  rw [ha, hb] at key
  simp only [Bool.or_eq_true, Bool.not_eq_true'] at key
  rcases key with k | k
  · exfalso
    have : clash a b = true := by
      unfold clash
      rw [Bool.or_eq_true, List.any_eq_true, List.any_eq_true]
      rcases hx with ⟨x, hx, hx2⟩ | ⟨x, hx, hx2⟩
      · refine .inl ⟨x, hx, ?_⟩
        rw [Bool.or_eq_true, List.any_eq_true, Bool.and_eq_true]
        rcases hx2 with hx2 | ⟨h1, h2⟩
        · exact .inl ⟨x, hx2, by simp⟩
        · exact .inr ⟨Nat.ble_eq_true_of_le h1, by simpa [Nat.blt_eq] using h2⟩
      · refine .inr ⟨x, hx, ?_⟩
        rw [List.any_eq_true]
        exact ⟨x, hx2, by simp⟩
    rw [this] at k; cases k
  · exact k

/-! ### What a body with a deferred call ends in -/
section
variable {P : Program}
theorem EndsD.more {fd : Nat} {res : D} {px : PX} {s : St} {r r' : ResultVar} {rs : List ResultVar} (ps : List PV) (id : Nat) (p0 p1 : PV) (x : Option D) (h1 : s.df = [(fd, [.vptr id 0])]) (h2 : s.H id = some (.var [p0])) (h3 : DLaw P fd [.vptr 0 0] [.var [p0]] x [.var [p1]])
    (h4 : p0.re (fOf [id] s.nx) = p0) (h5 : p1.re (fIn [id] 1 s.nx) = p1) (h6 : match px with | .normal | .ret => x = none | .panic p => ∃ d, x = some d ∧ p = .d d | .exit _ => False)
    (h : ResAll P ⟨s.S, putH s.H id (some (.var [p1])), s.nx, []⟩ (r :: r' :: rs) ps) (ht : (PV.tuple ps).toD = some res) : EndsD P (r :: r' :: rs) fd res px s := by
  have h7 := Ends.more (px := .ret) (.inr rfl) rfl h ht rfl
  exact ⟨id, p0, h1, h2, x, p1, h3, h4, h5, h6, h7.2.2.1, h7.2.2.2⟩
theorem EndsD.one {fd : Nat} {res : D} {px : PX} {s : St} {r : ResultVar} (p : PV) (id : Nat) (p0 p1 : PV) (x : Option D) (h1 : s.df = [(fd, [.vptr id 0])]) (h2 : s.H id = some (.var [p0])) (h3 : DLaw P fd [.vptr 0 0] [.var [p0]] x [.var [p1]])
    (h4 : p0.re (fOf [id] s.nx) = p0) (h5 : p1.re (fIn [id] 1 s.nx) = p1) (h6 : match px with | .normal | .ret => x = none | .panic p => ∃ d, x = some d ∧ p = .d d | .exit _ => False)
    (h : ResIs P ⟨s.S, putH s.H id (some (.var [p1])), s.nx, []⟩ r p) (ht : p.toD = some res) : EndsD P [r] fd res px s := by
  have h7 := Ends.one (px := .ret) (.inr rfl) rfl h ht rfl
  exact ⟨id, p0, h1, h2, x, p1, h3, h4, h5, h6, h7.2.2.1, h7.2.2.2⟩
end
end Go.Proofs.Ytonlehebfeilmaa.K
