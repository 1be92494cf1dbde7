import Derived.Test.YtfnlcnnoedmfiaaAKB
import Derived.IntWalk
import Derived.ProofKit
import Derived.OpenShut
import Derived.Below
import Derived.ChangeSame
import Derived.WideKeyArgs
import Derived.ChangeArms
import Derived.ChangeKeysEq
import Derived.Recover
/- What keeps the reckoning from entering what is not yet reached; the lookups. -/
namespace Go.Proofs.Ytfnlcnnoedmfiaa.K
open Go Go.RowKit
variable {P : Program} {N : Nat}
theorem putS_at {S : Nat → PV} {d t : Nat} {v : PV} : putS S (some d) v t = if t = d then v else S t := rfl
theorem putH_at {H : HM} {k i : Nat} {v : Option HO} : putH H k v i = if i = k then v else H i := rfl
theorem wrap_i64 {n : Int} (h : -9223372036854775808 ≤ n ∧ n ≤ 9223372036854775807) : IntKind.i64.wrap n = n := IntWalk.i64_in n h
theorem wrap_u8 {n : Int} (h : 0 ≤ n ∧ n ≤ 255) : IntKind.u8.wrap n = n := IntWalk.u8_in n h
theorem wrap_u64 {n : Int} (h : 0 ≤ n ∧ n ≤ 18446744073709551615) : IntKind.u64.wrap n = n := IntWalk.u64_in n h
end Go.Proofs.Ytfnlcnnoedmfiaa.K
/- Regions, an operation at a time. -/
namespace Go.Proofs.Ytfnlcnnoedmfiaa.K
open Go Go.RowKit
variable {P : Program} {N : Nat} {ops : Array Oper} {o : Oper} {r : List Oper} {s : St}
def unC : PV → PV
  | .cond true p => p
  | p => p
def unT (S : Nat → PV) : Nat → PV := fun t => unC (S t)
def XK (P : Program) (ops : Array Oper) (r : List Oper) (s : St) (Q : PX → St → Prop) : Prop := (∀ i, s.nx ≤ i → s.H i = none) → RunX P ops r s Q
def RK (P : Program) (ops : Array Oper) (r : List Oper) (s : St) (acc : List Rec) (K : St → List Rec → Prop) : Prop :=
  (∀ i, s.nx ≤ i → s.H i = none) → ∃ s' L, Runs P ops r s s' L ∧ K s' (acc.reverse ++ L)
def RQ (P : Program) (ops : Array Oper) (r : List Oper) (s : St) (Q : St → Prop) : Prop :=
  (∀ i, s.nx ≤ i → s.H i = none) → ∃ s' L, Runs P ops r s s' L ∧ (∀ R ∈ L, R.W = [] ∧ R.lo = R.hi) ∧ Q s'
theorem XK.nil {Q : PX → St → Prop} (h : Q .normal s) : XK P ops [] s Q := fun _ => .nil h
theorem RK.nil {acc : List Rec} {K : St → List Rec → Prop} (h : K s acc.reverse) : RK P ops [] s acc K := fun _ => ⟨s, [], .nil s, by simpa using h⟩
theorem RQ.nil {Q : St → Prop} (h : Q s) : RQ P ops [] s Q := fun _ => ⟨s, [], .nil s, by simp, h⟩
theorem XK.step {Q : PX → St → Prop} (hg : o.guard = none) (h : stepF P [] o s fun v H' nx' _ _ => XK P ops r ⟨putS s.S o.dst v, H', nx', s.df⟩ Q) : XK P ops (o :: r) s Q := by
  intro hn
  obtain ⟨v, H', nx', T, W, hs, hk⟩ := stepF_sound hn h
  exact .step (R := ⟨T, W, s.nx, nx'⟩) (.run hg hs) (hk hs.nil)
theorem XK.frozen {Q : PX → St → Prop} (hg : o.guard = none) (h : stepF P o.dst.toList o s fun v H' nx' _ _ => XK P ops r ⟨putS s.S o.dst v, H', nx', s.df⟩ Q) : XK P ops (o :: r) s Q := by
  intro hn
  obtain ⟨v, H', nx', T, W, hs, hk⟩ := stepF_sound hn h
  exact .step (R := ⟨T, W, s.nx, nx'⟩) (.run hg hs) (hk hs.nil)
theorem RK.step {acc : List Rec} {K : St → List Rec → Prop} (hg : o.guard = none) (h : stepF P [] o s fun v H' nx' T W => RK P ops r ⟨putS s.S o.dst v, H', nx', s.df⟩ (⟨T, W, s.nx, nx'⟩ :: acc) K) : RK P ops (o :: r) s acc K := by
  intro hn
  obtain ⟨v, H', nx', T, W, hs, hk⟩ := stepF_sound hn h
  obtain ⟨s', L, hr, hK⟩ := hk hs.nil
  exact ⟨s', _, .cons (.run hg hs) hr, by simpa using hK⟩
theorem RQ.step {Q : St → Prop} (hg : o.guard = none) (h : stepF P [] o s fun v H' nx' _ W => (W = [] ∧ nx' = s.nx) ∧ RQ P ops r ⟨putS s.S o.dst v, H', nx', s.df⟩ Q) : RQ P ops (o :: r) s Q := by
  intro hn
  obtain ⟨v, H', nx', T, W, hs, ⟨hW, hx⟩, hk⟩ := stepF_sound hn h
  obtain ⟨s', L, hr, hK, hQ⟩ := hk hs.nil
  refine ⟨s', _, .cons (.run hg hs) hr, ?_, hQ⟩
  intro R hR
  rcases List.mem_cons.1 hR with rfl | hR
  · exact ⟨hW, hx.symm⟩
  · exact hK R hR
theorem PW.regT {id : Nat} {Q : PX → St → Prop} (hok : dstsIn ops N = true) (h : XK P ops ops.toList s Q) : PW P N (.region id ops false) s Q :=
  fun m ρ a w hI => PW.region hok (h hI.hnil) m ρ a w hI
theorem PW.regK {id : Nat} {Q : PX → St → Prop} (hm : P.follows .mixedOrders = true) {M : List Nat} (hM : M = masks ops.toList []) (hok : regionOK ops N M = true)
    (h : RK P ops ops.toList s [] fun s' L => RecsOK M L ∧ Q .normal s') : PW P N (.region id ops true) s Q := by
  intro m ρ a w hI
  obtain ⟨s', L, hr, hL, hQ⟩ := h hI.hnil
  exact PW.draw hm M hok hM hr (by simpa using hL) hQ m ρ a w hI
theorem RecsOK.quiet {M : List Nat} {L : List Rec} (h : ∀ R ∈ L, R.W = [] ∧ R.lo = R.hi) : RecsOK M L := by
  intro i j a b _ ha hb hx
  have h1 := h a (List.mem_of_getElem? ha)
  have h2 := h b (List.mem_of_getElem? hb)
  rcases hx with ⟨x, _, hx | hx⟩ | ⟨x, _, hx⟩
  · rw [h1.1] at hx; cases hx
  · omega
  · rw [h2.1] at hx; cases hx
theorem PW.regQ {id : Nat} {Q : PX → St → Prop} (hm : P.follows .mixedOrders = true) {M : List Nat} (hM : M = masks ops.toList []) (hok : regionOK ops N M = true)
    (h : RQ P ops ops.toList s fun s' => Q .normal s') : PW P N (.region id ops true) s Q := by
  intro m ρ a w hI
  obtain ⟨s', L, hr, hL, hQ⟩ := h hI.hnil
  exact PW.draw hm M hok hM hr (RecsOK.quiet hL) hQ m ρ a w hI
end Go.Proofs.Ytfnlcnnoedmfiaa.K
/- From a law's own walk to its row. -/
namespace Go.Proofs.Ytfnlcnnoedmfiaa.K
open Go Go.RowKit Go.ChangeShapes Go.WideShapes Go.ChangeAt
variable {P : Program}
theorem Ext.below {m m' : Mem} {w w' : World} (h : Ext (fun _ => False) m w m' w') : Below w.heap.size w w' := ⟨h.os, h.tape, h.output, h.size, fun k hk => h.block k hk fun f => f⟩
def memOf (w : World) : Mem := fun b o => match w.cell? ⟨b, o, none⟩ with
  | some v => if v.oneCell' = true then some v else none
  | none => none
theorem memOf_ok (w : World) : MemOK (memOf w) w := by
  intro b o v h
  unfold memOf at h
  split at h
  · rename_i u hu
    split at h
    · rename_i h1
      simp only [Option.some.injEq] at h
      subst h
      exact ⟨hu, h1⟩
    · cases h
  · cases h
theorem trodAll_stays {H : Type} {enc : TypeId × Value → H} (hl : laidOutB P = true) {W W' : World} (hb : Below W.heap.size W W') {sp' : Nat → Bool} : ∀ {ts : List TypeId} {vs : List Value} {ds : List (DataW H)} {ps : List MemPlace},
    (∀ t ∈ ts, P.readableRec t = true ∧ t < P.types.size) → DataW.TrodAll enc P W 0 (fun _ => true) true ts vs ds ps → (∀ p ∈ ps, sp' p.block = true) → DataW.TrodAll enc P W' 0 sp' true ts vs ds ps
  | [], [], [], _, _, h, _ => h
  | t :: ts, v :: vs, d :: ds, ps, ht, h, hs => by
    have hlt := DataW.TrodAll.lt h
    obtain ⟨p, q, h1, h2, rfl⟩ := h
    refine ⟨p, q, ?_, trodAll_stays hl hb (fun t' h' => ht t' (List.mem_cons_of_mem _ h')) h2 (fun x hx => hs x (by simp [hx])), rfl⟩
    exact WideElems.Trod_stays hl (ht t (List.mem_cons_self ..)).1 (ht t (List.mem_cons_self ..)).2 h1 (fun x hx => hb.same (hlt x (by simp [hx]))) (fun x hx => hs x (by simp [hx]))
  | [], _ :: _, _, _, _, h, _ => by cases h
  | [], [], _ :: _, _, _, h, _ => by cases h
  | _ :: _, [], _, _, _, h, _ => by cases h
  | _ :: _, _ :: _, [], _, _, h, _ => by cases h
theorem post_true {H : Type} {enc : TypeId × Value → H} {f : Func} {s : ChangeSpec} {fresh handsOn again : Bool} {W W' : World} {args : Array Value} {ds gs : List (DataW H)} {before : List MemPlace} {t : TypeId}
    (hl : laidOutB P = true) (hp : ∀ t ∈ f.params.toList, P.readableRec t = true ∧ t < P.types.size) (hW : DataW.Whole enc P f.params.toList s.vars false W args.toList ds gs before) (hv : s.vars = [])
    (hres : (s.fn H (ds ++ gs)).results = [.lit (.bool true)]) (hargs : (s.fn H (ds ++ gs)).args = ds) (hvs : (s.fn H (ds ++ gs)).vars = []) (hrt : f.resultTypes = #[t]) (ht : P.underlying t = some .bool)
    (hb : Below W.heap.size W W') : s.post enc P f false fresh handsOn again W args (.bool true) W' := by
  have hW' := hW
  have hlt := fun p hp => hW.lt p hp
  obtain ⟨p, q, hA, hV, rfl, hz, hn⟩ := hW
  rw [hv] at hV
  obtain ⟨rfl, rfl⟩ := trodVars_none hV
  have hold : ∀ x ∈ p, (fun b => decide (b < W.heap.size)) x.block = true := fun x hx => by simpa using hlt x (by simp [hx])
  have hres' : ∀ (b : Nat) (sp : Nat → Bool) (hd : Bool), DataW.TrodAll enc P W' b sp hd f.resultTypes.toList ((Value.bool true).resultList f.resultTypes.size) (s.fn H (ds ++ [])).results [] := by
    intro b sp hd
    rw [hres, hrt]
    exact trodAll_cons_mk (shut_bool ht _) trodAll_mk0
  have hargs' : ∀ sp : Nat → Bool, (∀ x ∈ p, sp x.block = true) → DataW.TrodAll enc P W' 0 sp true f.params.toList args.toList (s.fn H (ds ++ [])).args p := by
    intro sp hs
    rw [hargs]
    exact trodAll_stays hl hb hp hA hs
  have hvars' : ∀ sp : Nat → Bool, DataW.TrodVars enc P W' sp s.vars (s.fn H (ds ++ [])).vars [] := by
    intro sp
    rw [hv, hvs]
    rfl
  have hok : ∀ (j : Nat) (t' : TypeId) (r : Value), f.resultTypes[j]? = some t' → ((Value.bool true).resultList f.resultTypes.size)[j]? = some r → Value.okWide P W' .any 0 t' r := ok_one hrt rfl (okWide_bool_mk ht _)
  refine ⟨ds, [], p ++ [], [], p, [], hW', hres' _ _ _, hargs' _ hold, hvars' _, World.keptBut_mono (fun x hx => ⟨hx, .inr (by simpa using hx)⟩) (hb.frame _), fun _ => ⟨hok, _, _, ([] ++ p) ++ [], ⟨[] ++ p, [], trodAll_append (hargs' _ (fun _ _ => rfl)) (hres' _ _ _), hvars' _, rfl, ?_, ?_⟩, ?_⟩⟩
  · intro b off hx
    have hb' : b < W.heap.size := hlt (.cell b off) (by simpa using hx)
    have e : W'.frozen? ⟨b, off, none⟩ = W.frozen? ⟨b, off, none⟩ := by
      unfold World.frozen?
      rw [hb.block b hb']
    rw [e]
    exact hz b off (by simpa using hx)
  · intro ha
    cases ha
  · intro x hx _
    simpa using hx
theorem law_calls {H : Type} {enc : TypeId × Value → H} {f : Func} {n : Nat} {s : ChangeSpec} {fresh handsOn again : Bool} {W : World} {args : Array Value} {ds gs : List (DataW H)} {before : List MemPlace} {t : TypeId} {data : List D}
    (hF : Fun P n data (.val (.bool true))) (hrep : RepL (memOf W) data args.toList)
    (hl : laidOutB P = true) (hp : ∀ t ∈ f.params.toList, P.readableRec t = true ∧ t < P.types.size) (hW : DataW.Whole enc P f.params.toList s.vars false W args.toList ds gs before) (hv : s.vars = [])
    (hres : (s.fn H (ds ++ gs)).results = [.lit (.bool true)]) (hargs : (s.fn H (ds ++ gs)).args = ds) (hvs : (s.fn H (ds ++ gs)).vars = []) (hrt : f.resultTypes = #[t]) (ht : P.underlying t = some .bool) :
    Calls P n args W fun e W' => ∃ v, e = .returned v ∧ s.post enc P f false fresh handsOn again W args v W' := by
  have := hF (memOf W) W args.toList (memOf_ok W) hrep
  refine this.mono ?_
  rintro e W' ⟨v, m', rfl, hvr, _, hE⟩
  simp only [RepD] at hvr
  subst hvr
  exact ⟨_, rfl, post_true hl hp hW hv hres hargs hvs hrt ht hE.below⟩
end Go.Proofs.Ytfnlcnnoedmfiaa.K
/- What an argument of a row is, as data. -/
namespace Go.Proofs.Ytfnlcnnoedmfiaa.K
open Go Go.RowKit Go.ChangeShapes Go.WideShapes Go.ChangeAt
variable {P : Program}
inductive Ty where
  | bool
  | int (k : IntKind)
  | str
  | slice (e : Ty)
  | st (l : List Ty)
  | arr (n : Nat) (e : Ty)
def Ty.isAgg : Ty → Bool
  | .st _ => true
  | .arr _ _ => true
  | _ => false
mutual
def Ty.size : Ty → Nat
  | .st l => Ty.sizes l
  | .arr n e => n * e.size
  | _ => 1
def Ty.sizes : List Ty → Nat
  | [] => 0
  | t :: r => t.size + Ty.sizes r
end
mutual
/-- The cells l bear a datum of type T. -/
def HasC : Ty → List D → Prop
  | .bool, l => ∃ b, l = [.val (.bool b)]
  | .int k, l => ∃ n, l = [.val (.int k n)] ∧ (Lit.int k n).wf = true
  | .str, l => ∃ s : ByteArray, l = [.val (.string s)] ∧ s.size ≤ maxLen
  | .slice e, l => ∃ xs : List D, l = [.slice xs] ∧ xs.length ≤ maxLen ∧ ∀ x ∈ xs, HasC e x.cells ∧ (∃ c, x = .agg c) = (e.isAgg = true)
  | .st ts, l => HasL ts l
  | .arr n e, l => ∃ ls : List (List D), ls.length = n ∧ l = ls.flatten ∧ ∀ c ∈ ls, HasC e c
def HasL : List Ty → List D → Prop
  | [], l => l = []
  | t :: r, l => ∃ a b, l = a ++ b ∧ HasC t a ∧ HasL r b
end
mutual
/-- Type t of the program is of shape T. -/
def shp (P : Program) : Ty → TypeId → Bool
  | .bool, t => match P.underlying t with
    | some .bool => true
    | _ => false
  | .int k, t => match P.underlying t with
    | some (.int k') => k' == k
    | _ => false
  | .str, t => match P.underlying t with
    | some .string => true
    | _ => false
  | .slice e, t => match P.underlying t with
    | some (.slice u) => shp P e u && (P.cellsOf u == e.size && decide (0 < e.size))
    | _ => false
  | .st ts, t => match P.underlying t with
    | some (.struct fs) => (P.cellsOf t == Ty.sizes ts) && shpL P ts fs.toList 0
    | _ => false
  | .arr n e, t => match P.underlying t with
    | some (.array k u) => (k == n) && (shp P e u && (P.cellsOf u == e.size && P.cellsOf t == n * e.size))
    | _ => false
def shpL (P : Program) : List Ty → List Field → Nat → Bool
  | [], [], _ => true
  | T :: r, f :: q, off => (f.offset == off) && ((P.cellsOf f.type == T.size) && (shp P T f.type && shpL P r q (off + T.size)))
  | _, _, _ => false
end
def wrapD (e : Ty) (l : List D) : D := if e.isAgg then .agg l else l.headD default
theorem wrapD_cells {e : Ty} {l : List D} (h : HasC e l) : (wrapD e l).cells = l := by
  cases e <;> simp only [HasC] at h <;> simp only [wrapD, Ty.isAgg, if_true, Bool.false_eq_true, if_false]
  · obtain ⟨b, rfl⟩ := h; rfl
  · obtain ⟨n, rfl, _⟩ := h; rfl
  · obtain ⟨n, rfl, _⟩ := h; rfl
  · obtain ⟨n, rfl, _⟩ := h; rfl
  · rfl
  · rfl
theorem wrapD_agg {e : Ty} {l : List D} (h : HasC e l) : (∃ c, wrapD e l = .agg c) = (e.isAgg = true) := by
  cases e <;> simp only [HasC] at h <;> simp only [wrapD, Ty.isAgg, if_true, Bool.false_eq_true, if_false]
  · obtain ⟨b, rfl⟩ := h; simp
  · obtain ⟨n, rfl, _⟩ := h; simp
  · obtain ⟨n, rfl, _⟩ := h; simp
  · obtain ⟨n, rfl, _⟩ := h; simp
  · simp
  · simp
theorem trod_array {H : Type} {enc : TypeId × Value → H} {w : World} {base : Nat} {sp : Nat → Bool} {held : Bool} {fuel : Nat} {t e : TypeId} {n : Nat} {cs : List Value} {x : DataW H × List MemPlace} (ht : P.underlying t = some (.array n e))
    (h : DataW.trod enc P w base sp held fuel t cs = some x) :
    ∃ (xs : List (DataW H × List MemPlace)) (k : Nat), fuel = k + 1 ∧ cs.length = P.cellsOf t ∧ xs.length = n ∧ ∀ i, i < n → DataW.trod enc P w base sp held k e ((cs.drop (i * P.cellsOf e)).take (P.cellsOf e)) = xs[i]? := by
  cases fuel with
  | zero => simp [DataW.trod] at h
  | succ k =>
    unfold DataW.trod at h
    rw [ht] at h
    split at h <;> simp_all
    obtain ⟨hl, xs, hp, hd⟩ := h
    exact ⟨xs, by simpa using mapM_some_length hp, fun i hi => mapM_some_get hp i i (by simp [hi])⟩
theorem cell_memOf {W : World} {b o : Nat} {v : Value} (h : W.cell? ⟨b, o, none⟩ = some v) (h1 : v.oneCell' = true) : memOf W b o = some v := by
  unfold memOf
  rw [h]
  simp [h1]
theorem split_arr {m : Mem} {e : Ty} {sz : Nat} : ∀ (n : Nat) (cs : List Value), cs.length = n * sz →
    (∀ i, i < n → ∃ l, HasC e l ∧ RepL m l ((cs.drop (i * sz)).take sz) ∧ ∀ u ∈ (cs.drop (i * sz)).take sz, u.oneCell' = true) →
    ∃ ls : List (List D), ls.length = n ∧ (∀ c ∈ ls, HasC e c) ∧ RepL m ls.flatten cs ∧ ∀ u ∈ cs, u.oneCell' = true := by
  intro n
  induction n with
  | zero =>
    intro cs hl _
    have : cs = [] := by simpa using hl
    subst this
    exact ⟨[], rfl, by simp, by simp [RepL], by simp⟩
  | succ n ih =>
    intro cs hl h
    obtain ⟨l, h1, h2, h3⟩ := h 0 (by omega)
    simp only [Nat.zero_mul, List.drop_zero] at h2 h3
    have hlen : (cs.drop sz).length = n * sz := by
      rw [List.length_drop, hl, Nat.succ_mul]
      omega
    obtain ⟨ls, e1, e2, e3, e4⟩ := ih (cs.drop sz) hlen (fun i hi => by
      have := h (i + 1) (by omega)
      rw [Nat.succ_mul] at this
      rw [List.drop_drop]
      rwa [Nat.add_comm sz (i * sz)])
    refine ⟨l :: ls, by simp [e1], ?_, ?_, ?_⟩
    · intro c hc
      rcases List.mem_cons.1 hc with rfl | hc
      · exact h1
      · exact e2 c hc
    · rw [List.flatten_cons, ← List.take_append_drop sz cs]
      exact repL_append h2 e3
    · intro u hu
      rw [← List.take_append_drop sz cs] at hu
      rcases List.mem_append.1 hu with hu | hu
      · exact h3 u hu
      · exact e4 u hu
theorem build_row {m : Mem} {b : Nat} {e : Ty} {sz : Nat} : ∀ (n o : Nat),
    (∀ i, i < n → ∃ l vs, HasC e l ∧ RepL m l vs ∧ vs.length = sz ∧ ∀ j v, vs[j]? = some v → m b (o + i * sz + j) = some v) →
    ∃ xs : List D, xs.length = n ∧ RepE m b xs o ∧ ∀ x ∈ xs, HasC e x.cells ∧ (∃ c, x = .agg c) = (e.isAgg = true) := by
  intro n
  induction n with
  | zero => intro o _; exact ⟨[], rfl, by simp [RepE], by simp⟩
  | succ n ih =>
    intro o h
    obtain ⟨l, vs, h1, h2, h3, h4⟩ := h 0 (by omega)
    obtain ⟨xs, e1, e2, e3⟩ := ih (o + sz) (fun i hi => by
      obtain ⟨l', vs', k1, k2, k3, k4⟩ := h (i + 1) (by omega)
      refine ⟨l', vs', k1, k2, k3, fun j v hv => ?_⟩
      have := k4 j v hv
      rw [Nat.succ_mul] at this
      rwa [show o + sz + i * sz + j = o + (i * sz + sz) + j from by omega])
    have hc := wrapD_cells h1
    have hlen : l.length = sz := by rw [← repL_len h2]; exact h3
    refine ⟨wrapD e l :: xs, by simp [e1], ?_, ?_⟩
    · rw [repE_cons, hc, hlen]
      refine ⟨repC_of_vals h2 fun j v hv => ?_, e2⟩
      have := h4 j v hv
      rwa [Nat.zero_mul, Nat.add_zero] at this
    · intro x hx
      rcases List.mem_cons.1 hx with rfl | hx
      · rw [hc]; exact ⟨h1, wrapD_agg h1⟩
      · exact e3 x hx
theorem cells_spot {W : World} {base : Nat} {a : Addr} {n : Nat} {cs : List Value} (h : W.cells? base a n = some cs) (hn : 0 < n) : a.spot = none := by
  unfold World.cells? at h
  split at h
  · have h0 := mapM_some_get h 0 0 (by simp [hn])
    have hl := mapM_some_length h
    simp only [List.length_range] at hl
    have : cs[0]? ≠ none := fun hc => by have := List.getElem?_eq_none_iff.1 hc; omega
    rw [← h0] at this
    cases hs : a.spot with
    | none => rfl
    | some s =>
      refine absurd ?_ this
      have : a.add 0 = a := by simp [Addr.add]
      rw [this]
      simp only [World.cell?]
      split
      · simp [hs]
      · rfl
  · cases h
theorem cells_get {W : World} {base b o n : Nat} {cs : List Value} (h : W.cells? base ⟨b, o, none⟩ n = some cs) : cs.length = n ∧ ∀ j v, cs[j]? = some v → W.cell? ⟨b, o + j, none⟩ = some v := by
  unfold World.cells? at h
  split at h
  · have hl := mapM_some_length h
    simp only [List.length_range] at hl
    refine ⟨hl, fun j v hv => ?_⟩
    have hj : j < n := by
      have := (List.getElem?_eq_some_iff.1 hv).1
      omega
    have := mapM_some_get h j j (by simp [hj])
    rw [addr_add] at this
    rw [this, hv]
  · cases h
mutual
theorem open_cells {H : Type} {enc : TypeId × Value → H} {W : World} {sp : Nat → Bool} : ∀ (T : Ty) (t : TypeId) (fuel : Nat) (cs : List Value) (x : DataW H × List MemPlace),
    shp P T t = true → DataW.trod enc P W 0 sp true fuel t cs = some x → ∃ l, HasC T l ∧ RepL (memOf W) l cs ∧ ∀ u ∈ cs, u.oneCell' = true
  | .bool, t, fuel, cs, x, hs, h => by
    simp only [shp] at hs
    split at hs
    · rename_i hu
      obtain ⟨b, rfl, _⟩ := DataW.trod_bool hu h
      exact ⟨_, ⟨b, rfl⟩, by simp [RepL, RepD], by simp [Value.oneCell']⟩
    · cases hs
  | .int k, t, fuel, cs, x, hs, h => by
    simp only [shp] at hs
    split at hs
    · rename_i k' hu
      have hk : k' = k := by simpa using hs
      subst hk
      obtain ⟨n, rfl, _, hw⟩ := DataW.trod_int hu h
      exact ⟨_, ⟨n, rfl, hw⟩, by simp [RepL, RepD], by simp [Value.oneCell']⟩
    · cases hs
  | .str, t, fuel, cs, x, hs, h => by
    simp only [shp] at hs
    split at hs
    · rename_i hu
      obtain ⟨s, rfl, _, hw⟩ := DataW.trod_string hu h
      exact ⟨_, ⟨s, rfl, hw⟩, by simp [RepL, RepD], by simp [Value.oneCell']⟩
    · cases hs
  | .slice e, t, fuel, cs, x, hs, h => by
    simp only [shp] at hs
    split at hs
    · rename_i u hu
      simp only [Bool.and_eq_true, beq_iff_eq, decide_eq_true_eq] at hs
      obtain ⟨h1, h2, h3⟩ := hs
      rcases DataW.trod_slice hu h with ⟨rfl, _⟩ | ⟨a, len, cap, elems, rest, n, rfl, rfl, _, _, hlc, hcm, hel, hget, _⟩
      · exact ⟨_, ⟨[], rfl, by simp, by simp⟩, by simp [RepL, RepD], by simp [Value.oneCell']⟩
      · rw [h2] at hget
        have each : ∀ i, i < len → ∃ csi xi, W.cells? 0 (a.add (i * e.size)) e.size = some csi ∧ DataW.trod enc P W 0 sp true n u csi = some xi := by
          intro i hi
          have := hget i hi
          have hx : elems[i]? = some (elems[i]'(by omega)) := List.getElem?_eq_getElem (by omega)
          rw [hx, Option.bind_eq_some_iff] at this
          obtain ⟨csi, k1, k2⟩ := this
          exact ⟨csi, _, k1, k2⟩
        by_cases h0 : len = 0
        · subst h0
          exact ⟨_, ⟨[], rfl, by simp, by simp⟩, by simp [RepL, RepD], by simp [Value.oneCell']⟩
        · have hspot : a.spot = none := by
            obtain ⟨csi, _, k1, _⟩ := each 0 (by omega)
            have := cells_spot k1 h3
            simpa [Addr.add] using this
          obtain ⟨b, o, s⟩ := a
          simp only at hspot
          subst hspot
          obtain ⟨xs, e1, e2, e3⟩ := build_row (m := memOf W) (b := b) (e := e) (sz := e.size) len o (fun i hi => by
            obtain ⟨csi, xi, k1, k2⟩ := each i hi
            obtain ⟨l, l1, l2, l3⟩ := open_cells e u n csi xi h1 k2
            rw [addr_add] at k1
            obtain ⟨k3, k4⟩ := cells_get k1
            exact ⟨l, csi, l1, l2, k3, fun j v hv => cell_memOf (k4 j v hv) (l3 v (List.mem_of_getElem? hv))⟩)
          refine ⟨[.slice xs], ⟨xs, rfl, by omega, e3⟩, ?_, by simp [Value.oneCell']⟩
          simp only [RepL, RepD]
          exact ⟨_, [], rfl, ⟨some ⟨b, o, none⟩, cap, by rw [e1], by omega, .inr ⟨b, o, rfl, e2⟩⟩, rfl⟩
    · cases hs
  | .st ts, t, fuel, cs, x, hs, h => by
    simp only [shp] at hs
    split at hs
    · rename_i fs hu
      simp only [Bool.and_eq_true, beq_iff_eq] at hs
      obtain ⟨h1, h2⟩ := hs
      obtain ⟨xs, n, rfl, _, hl, hx, hget⟩ := DataW.trod_struct hu h
      obtain ⟨l, l1, l2, l3⟩ := open_list ts fs.toList 0 n cs h2 (fun f hf => by
        obtain ⟨i, hi⟩ := List.mem_iff_getElem?.1 hf
        have hi' : fs[i]? = some f := by simpa using hi
        have := hget i f hi'
        have hlt : i < fs.size := (Array.getElem?_eq_some_iff.1 hi').1
        exact ⟨xs[i]'(by omega), by rw [this]; exact List.getElem?_eq_getElem (by omega)⟩) (by omega)
      have e : (cs.drop 0).take (Ty.sizes ts) = cs := by rw [List.drop_zero, List.take_of_length_le (by omega)]
      rw [e] at l2 l3
      exact ⟨l, by simpa only [HasC] using l1, l2, l3⟩
    · cases hs
  | .arr k e, t, fuel, cs, x, hs, h => by
    simp only [shp] at hs
    split at hs
    · rename_i k' u hu
      simp only [Bool.and_eq_true, beq_iff_eq] at hs
      obtain ⟨rfl, h1, h2, h3⟩ := hs
      obtain ⟨xs, n, rfl, hl, hx, hget⟩ := trod_array hu h
      rw [h2] at hget
      obtain ⟨ls, e1, e2, e3, e4⟩ := split_arr (m := memOf W) (e := e) (sz := e.size) k' cs (by omega) (fun i hi => by
        have := hget i hi
        rw [List.getElem?_eq_getElem (by omega)] at this
        exact open_cells e u n _ _ h1 this)
      exact ⟨_, ⟨ls, e1, rfl, e2⟩, e3, e4⟩
    · cases hs
theorem open_list {H : Type} {enc : TypeId × Value → H} {W : World} {sp : Nat → Bool} : ∀ (Ts : List Ty) (fs : List Field) (off n : Nat) (cs : List Value),
    shpL P Ts fs off = true → (∀ f ∈ fs, ∃ x, DataW.trod enc P W 0 sp true n f.type ((cs.drop f.offset).take (P.cellsOf f.type)) = some x) → off + Ty.sizes Ts ≤ cs.length →
    ∃ l, HasL Ts l ∧ RepL (memOf W) l ((cs.drop off).take (Ty.sizes Ts)) ∧ ∀ u ∈ (cs.drop off).take (Ty.sizes Ts), u.oneCell' = true
  | [], [], off, n, cs, _, _, _ => ⟨[], rfl, by simp [RepL, Ty.sizes], by simp [Ty.sizes]⟩
  | T :: r, f :: q, off, n, cs, hs, h, hl => by
    simp only [shpL, Bool.and_eq_true, beq_iff_eq] at hs
    obtain ⟨h1, h2, h3, h4⟩ := hs
    obtain ⟨x, hx⟩ := h f (List.mem_cons_self ..)
    rw [h1, h2] at hx
    simp only [Ty.sizes] at hl
    obtain ⟨a, a1, a2, a3⟩ := open_cells T f.type n _ x h3 hx
    obtain ⟨b, b1, b2, b3⟩ := open_list r q (off + T.size) n cs h4 (fun g hg => h g (List.mem_cons_of_mem _ hg)) (by omega)
    have e : (cs.drop off).take (Ty.sizes (T :: r)) = (cs.drop off).take T.size ++ (cs.drop (off + T.size)).take (Ty.sizes r) := by
      simp only [Ty.sizes]
      rw [List.take_add, List.drop_drop]
    refine ⟨a ++ b, ?_, ?_, ?_⟩
    · simp only [HasL]; exact ⟨a, b, rfl, a1, b1⟩
    · rw [e]; exact repL_append a2 b2
    · intro u hu
      rw [e] at hu
      rcases List.mem_append.1 hu with hu | hu
      · exact a3 u hu
      · exact b3 u hu
  | [], _ :: _, _, _, _, hs, _, _ => by simp [shpL] at hs
  | _ :: _, [], _, _, _, hs, _, _ => by simp [shpL] at hs
end
end Go.Proofs.Ytfnlcnnoedmfiaa.K
/- An argument of a row, opened; shapes of bytes. -/
namespace Go.Proofs.Ytfnlcnnoedmfiaa.K
open Go Go.RowKit Go.ChangeShapes Go.WideShapes Go.ChangeAt
variable {P : Program}
theorem notAgg {W : World} {r : Reach} {b0 : Nat} {t : TypeId} {v : Value} {T : Ty} (hT : T.isAgg = false) (hs : shp P T t = true) (hv : Value.okWide P W r b0 t v) : v.cells.toList = [v] := by
  have key : ∀ cs, v ≠ .agg cs := by
    intro cs e
    subst e
    cases T <;> simp only [Ty.isAgg, Bool.true_eq_false] at hT <;> simp only [shp] at hs <;> split at hs <;> first | (cases hs; done) | (rename_i hu; simp [Value.okWide, hu, Cell.okWide, Cell.ok] at hv)
  cases v <;> simp_all [Value.cells]
theorem open_arg {H : Type} {enc : TypeId × Value → H} {W : World} {sp : Nat → Bool} {r : Reach} {b0 : Nat} {t : TypeId} {v : Value} {d : DataW H} {ps : List MemPlace} (T : Ty) (hs : shp P T t = true) (hv : Value.okWide P W r b0 t v) (h : DataW.Trod enc P W 0 sp true t v d ps) :
    ∃ l, HasC T l ∧ RepD (memOf W) (wrapD T l) v := by
  obtain ⟨fuel, h⟩ := h
  obtain ⟨l, h1, h2, h3⟩ := open_cells T t fuel _ _ hs h
  refine ⟨l, h1, ?_⟩
  cases hT : T.isAgg with
  | true =>
    have : ∃ cs, v = .agg cs := by
      cases T <;> simp only [Ty.isAgg, Bool.false_eq_true] at hT <;> simp only [shp] at hs <;> split at hs <;> first | (cases hs; done) | (rename_i hu; simp only [Value.okWide, hu] at hv; obtain ⟨cs, e, _⟩ := hv; exact ⟨cs, e⟩)
    obtain ⟨cs, rfl⟩ := this
    simp only [wrapD, hT, if_true, RepD]
    exact ⟨cs.toList, rfl, by simpa [Value.cells] using h2, by simpa [Value.cells] using h3⟩
  | false =>
    have hc := notAgg hT hs hv
    rw [hc] at h2
    have hw := wrapD_cells h1
    simp only [wrapD, hT, Bool.false_eq_true, if_false] at hw ⊢
    cases l with
    | nil => simp [RepL] at h2
    | cons x q =>
      simp only [RepL] at h2
      obtain ⟨v', vr, e, e1, e2⟩ := h2
      simp only [List.cons.injEq] at e
      obtain ⟨rfl, _⟩ := e
      simpa using e1
theorem has_u8 {l : List D} (h : HasC (.int .u8) l) : ∃ b : UInt8, l = [byteD b] := by
  simp only [HasC] at h
  obtain ⟨n, rfl, hw⟩ := h
  have hr : 0 ≤ n ∧ n ≤ 255 := by
    simp only [Lit.wf, Bool.and_eq_true, decide_eq_true_eq] at hw
    have h1 : IntKind.u8.min = 0 := by decide
    have h2 : IntKind.u8.max = 255 := by decide
    rw [h1, h2] at hw
    exact hw
  refine ⟨UInt8.ofNat n.toNat, ?_⟩
  have : ((UInt8.ofNat n.toNat).toNat : Int) = n := by
    rw [UInt8.toNat_ofNat']
    omega
  rw [byteD, this]
theorem has_map {α : Type} {e : Ty} {f : α → D} (one : ∀ x : D, HasC e x.cells → (∃ c, x = .agg c) = (e.isAgg = true) → ∃ a, x = f a) : ∀ {xs : List D}, (∀ x ∈ xs, HasC e x.cells ∧ (∃ c, x = .agg c) = (e.isAgg = true)) → ∃ as : List α, as.length = xs.length ∧ xs = as.map f
  | [], _ => ⟨[], rfl, rfl⟩
  | x :: r, h => by
    obtain ⟨a, e1⟩ := one x (h x (List.mem_cons_self ..)).1 (h x (List.mem_cons_self ..)).2
    obtain ⟨as, h1, h2⟩ := has_map one (xs := r) fun y hy => h y (List.mem_cons_of_mem _ hy)
    exact ⟨a :: as, by simp [h1], by simp [e1, h2]⟩
theorem cells_sing {x y : D} (h : x.cells = [y]) (ha : (∃ c, x = .agg c) = (false = true)) : x = y := by
  cases x with
  | agg c =>
    have : (false = true) := ha ▸ ⟨c, rfl⟩
    cases this
  | _ => simpa [D.cells] using h
end Go.Proofs.Ytfnlcnnoedmfiaa.K
/- Bytes: what the model's integer operations on them come to. -/
namespace Go.Proofs.Ytfnlcnnoedmfiaa.K
open Go Go.RowKit
theorem u8_lt (a : UInt8) : (0 : Int) ≤ a.toNat ∧ (a.toNat : Int) ≤ 255 := by
  have : a.toNat < 256 := a.toNat_lt
  omega
theorem wrap_toNat (a : UInt8) : IntKind.u8.wrap (a.toNat : Int) = a.toNat := wrap_u8 (u8_lt a)
theorem add_u8 (a b : UInt8) : IntKind.u8.wrap ((a.toNat : Int) + (b.toNat : Int)) = (a + b).toNat := by
  rw [IntKind.wrap_u8, UInt8.toNat_add]
  omega
theorem toDs_d : ∀ l : List D, PV.toDs (l.map .d) = some l
  | [] => rfl
  | x :: r => by simp only [List.map_cons, PV.toDs, PV.toD, toDs_d r, Option.map_some]
theorem maxLen_val : maxLen = 9223372036854775807 := rfl
theorem RecsOK.lone {M : List Nat} {L : List Rec} (n : Nat) (h1 : ∀ R ∈ L.take n, R.T = [] ∧ R.W = [] ∧ R.lo = R.hi) (h2 : ∀ R ∈ L.drop (n + 1), R.T = [] ∧ R.W = []) : RecsOK M L := by
  intro i j a b hij ha hb hx
  have front : ∀ (k : Nat) (R : Rec), k < n → L[k]? = some R → R.T = [] ∧ R.W = [] ∧ R.lo = R.hi := fun k R hk hR => h1 R (List.mem_of_getElem? (i := k) (by rw [List.getElem?_take, if_pos hk]; exact hR))
  have back : ∀ (k : Nat) (R : Rec), n < k → L[k]? = some R → R.T = [] ∧ R.W = [] := fun k R hk hR => h2 R (List.mem_of_getElem? (i := k - (n + 1)) (by rw [List.getElem?_drop, show n + 1 + (k - (n + 1)) = k from by omega]; exact hR))
  rcases Nat.lt_trichotomy j n with hj | hj | hj
  · have hB := front j b hj hb
    rcases hx with ⟨x, hx, _⟩ | ⟨x, _, hx⟩
    · rw [hB.1] at hx; cases hx
    · rw [hB.2.1] at hx; cases hx
  · have hA := front i a (by omega) ha
    rcases hx with ⟨x, _, hx | hx⟩ | ⟨x, hx, _⟩
    · rw [hA.2.1] at hx; cases hx
    · rw [hA.2.2] at hx; omega
    · rw [hA.1] at hx; cases hx
  · have hB := back j b hj hb
    rcases hx with ⟨x, hx, _⟩ | ⟨x, _, hx⟩
    · rw [hB.1] at hx; cases hx
    · rw [hB.2] at hx; cases hx
end Go.Proofs.Ytfnlcnnoedmfiaa.K
/- What the printed walks lean on: states at loops, tests that part, the words of the reckoning. -/
namespace Go.Proofs.Ytfnlcnnoedmfiaa.K
open Go Go.RowKit
variable {P : Program} {N : Nat} {ops : Array Oper} {o : Oper} {r : List Oper} {s : St}
def AtS (S : Nat → PV) : List (Nat × PV) → Prop
  | [] => True
  | x :: r => S x.1 = x.2 ∧ AtS S r
theorem loop_toList (bs : ByteArray) : ∀ (n i : Nat) (r : List UInt8), bs.size - i = n → ByteArray.toList.loop bs i r = r.reverse ++ bs.data.toList.drop i := by
  have e : bs.data.size = bs.size := rfl
  intro n
  induction n with
  | zero =>
    intro i r h
    rw [ByteArray.toList.loop, if_neg (by omega), List.drop_eq_nil_of_le (by simp; omega), List.append_nil]
  | succ n ih =>
    intro i r h
    rw [ByteArray.toList.loop, if_pos (by omega), ih (i + 1) _ (by omega)]
    have hi : i < bs.data.toList.length := by simp; omega
    rw [List.drop_eq_getElem_cons hi, List.reverse_cons, List.append_assoc]
    congr 2
    rw [ByteArray.get!, getElem!_pos bs.data i (by simpa using hi)]
    simp
theorem str_toList (l : List UInt8) : (ByteArray.mk l.toArray).toList = l := by
  rw [ByteArray.toList, loop_toList _ _ 0 [] rfl]
  simp
theorem str_size (l : List UInt8) : (ByteArray.mk l.toArray).size = l.length := by simp [ByteArray.size]
theorem str_append (a b : List UInt8) : ByteArray.mk a.toArray ++ ByteArray.mk b.toArray = ByteArray.mk (a ++ b).toArray := by
  apply WideShapes.bytes_inj
  simp
theorem str_extract (l : List UInt8) (i j : Nat) : (ByteArray.mk l.toArray).extract i j = ByteArray.mk ((l.drop i).take (j - i)).toArray := by
  apply WideShapes.bytes_inj
  simp
theorem i64_max : IntKind.i64.max = 9223372036854775807 := rfl
theorem byte_lt (a : UInt8) : a.toNat < 256 := a.toNat_lt
theorem wrap_byte (b : UInt8) : IntKind.i64.wrap (b.toNat : Int) = (b.toNat : Int) := wrap_i64 (by have := byte_lt b; omega)
def arrB (P : Program) (t : TypeId) (n : Nat) : Bool :=
  match P.underlying t with
  | some (.array k e) => k == n && (match P.underlying e with | some (.int .u8) => true | _ => false) && (match P.info? e with | some _ => P.cellsOf e == 1 | none => false) && !P.eqGuardType P.depth t
  | _ => false
theorem eqItems_bytes {e : TypeId} {w : World} (he : P.underlying e = some (.int .u8)) (d : Nat) : ∀ (a b : List UInt8) (pa pb : List UInt8), a.length = b.length → pa.length = pb.length →
    (Op.eqItems (d + 1) e 1 ⟨(pa ++ a).map fun b => Value.int .u8 b.toNat⟩ ⟨(pb ++ b).map fun b => Value.int .u8 b.toNat⟩ (List.range' pa.length a.length)).run P w = .ok (a == b) w
  | [], [], pa, pb, _, _ => rfl
  | x :: a, y :: b, pa, pb, h, hp => by
    have hpk : P.plainKey e = true := by simp [Program.plainKey, he]
    have e1 : ((⟨(pa ++ x :: a).map fun b => Value.int .u8 b.toNat⟩ : Array Value)[pa.length * 1]?) = some (.int .u8 x.toNat) := by simp
    have e2 : ((⟨(pb ++ y :: b).map fun b => Value.int .u8 b.toNat⟩ : Array Value)[pa.length * 1]?) = some (.int .u8 y.toNat) := by rw [hp]; simp
    have ih := eqItems_bytes (w := w) he d a b (pa ++ [x]) (pb ++ [y]) (by simpa using h) (by simp [hp])
    simp only [List.append_assoc, List.cons_append, List.nil_append, List.length_append, List.length_cons, List.length_nil, Nat.zero_add] at ih
    simp only [List.length_cons, List.range'_succ, Op.eqItems, Sem.run_bind, run_part_plain w hpk e1, run_part_plain w hpk e2, run_equalIn_int w d e _ _ _ _ he, Result.andThen_ok]
    by_cases hx : x = y
    · subst hx
      simp only [beq_self_eq_true, Bool.not_true, Bool.false_eq_true, if_false]
      rw [ih]
      simp
    · have : (((x.toNat : Int)) == (y.toNat : Int)) = false := by rw [beq_eq_false_iff_ne]; intro e; exact hx (UInt8.toNat_inj.1 (by omega))
      rw [this]
      have h2 : (x :: a == y :: b) = false := by simp [hx]
      rw [h2]
      rfl
  | [], _ :: _, _, _, h, _ => by simp at h
  | _ :: _, [], _, _, h, _ => by simp at h
theorem EqRun.bytes {t : TypeId} {n : Nat} (h : arrB P t n = true) (a b : List UInt8) (ha : a.length = n) (hb : b.length = n) : EqRun P t (.agg (a.map byteD)) (.agg (b.map byteD)) (a == b) := by
  unfold arrB at h
  split at h
  · rename_i k e hu
    simp only [Bool.and_eq_true, beq_iff_eq, Bool.not_eq_true'] at h
    obtain ⟨⟨⟨rfl, h2⟩, h3⟩, h4⟩ := h
    have he : P.underlying e = some (.int .u8) := by
      split at h2
      · assumption
      · cases h2
    split at h3
    · rename_i i hi
      have hc : P.cellsOf e = 1 := by simpa using h3
      refine ⟨h4, fun m w v u hv hu' => ?_⟩
      simp only [RepD] at hv hu'
      obtain ⟨vs, rfl, hvs, _⟩ := hv
      obtain ⟨us, rfl, hus, _⟩ := hu'
      refine ⟨_, _, rfl, rfl, ?_⟩
      have e1 := repL_bytes hvs
      have e2 := repL_bytes hus
      subst e1; subst e2
      show (Op.equalIn (9998 + 1 + 1) t _ _).run P w = _
      rw [run_equalIn_array w (9998 + 1) _ _ hu hi, hc, List.range_eq_range']
      have := eqItems_bytes (w := w) he 9998 a b [] [] (by omega) rfl
      simp only [List.nil_append, List.length_nil] at this
      rw [← ha]
      exact this
    · cases h3
  · cases h
attribute [go_sem] Int.natCast_zero Int.cast_ofNat_Int List.all_cons List.all_nil wrap_byte UInt8.ofNat_toNat List.size_toArray Int.tdiv_eq_ediv_of_nonneg Int.tmod_eq_emod_of_nonneg wrap_toNat str_toList str_size str_append str_extract i64_max stepF partsP partsQ solids keysOf eq_self true_implies false_implies Int.toNat_natCast Op.operands Call.operands Array.toList_append List.nil_append List.append_nil condsOK asCond unS unT unC pureF evP ofVal isEq aggy frozenDst binX eqlX eqOut bin un pickP extractP builtinF lenF PV.elems loadD loadV cellV fieldAddrP indexAddrP fieldP indexP partD partP noNil convF slcF bnd buildP fillP placeOf cloP PV.cellsP PV.solid PV.toD PV.toDs PV.more putS_at putH_at Nat.one_ne_zero Nat.zero_ne_one if_true if_false and_true true_and and_self Bool.and_true Bool.true_and Bool.and_false Bool.false_and Bool.false_eq_true beq_self_eq_true Bool.not_true Bool.not_false Bool.not_eq_true Bool.not_eq_false Bool.cond_true Bool.cond_false List.map_cons List.map_nil List.length_cons List.length_nil List.length_map decide_true decide_false List.drop_zero List.drop_succ_cons List.headD_cons List.getD_cons_zero List.getD_cons_succ forall_const imp_self ne_eq not_true not_false_eq_true Option.map_some Option.map_none List.cons_append and_assoc appendF Side notInt toDs_d Nat.mul_one List.forall_mem_cons List.not_mem_nil List.mem_cons forall_eq_or_imp forall_eq implies_true Option.some.injEq HO.spare.injEq Value.oneCell' List.length_replicate maxLen_val bytesOf_map isBytes_map wrap_i64 wrap_u64 wrap_u8
end Go.Proofs.Ytfnlcnnoedmfiaa.K
/- Words of 32 bits, and rows and arrays of them. -/
namespace Go.Proofs.Ytfnlcnnoedmfiaa.K
open Go Go.RowKit
abbrev Wd := BitVec 32
def lastOK (m : Nat) : List Rec → Nat → Bool
  | [], _ => true
  | R :: r, i => (R.T.isEmpty || m.testBit i) && lastOK m r (i + 1)
theorem lastOK_get {m : Nat} : ∀ {L : List Rec} {k i : Nat} {R : Rec}, lastOK m L k = true → L[i]? = some R → R.T ≠ [] → m.testBit (k + i) = true
  | R' :: r, k, 0, R, h, e, hT => by
    simp only [List.getElem?_cons_zero, Option.some.injEq] at e
    subst e
    simp only [lastOK, Bool.and_eq_true, Bool.or_eq_true, List.isEmpty_iff] at h
    exact h.1.resolve_left hT
  | R' :: r, k, i + 1, R, h, e, hT => by
    simp only [List.getElem?_cons_succ] at e
    simp only [lastOK, Bool.and_eq_true] at h
    have := lastOK_get h.2 e hT
    rwa [show k + 1 + i = k + (i + 1) by omega] at this
  | [], _, _, _, _, e, _ => by simp at e
theorem RecsOK.last {M : List Nat} {L : List Rec} (n : Nat) (h1 : ∀ R ∈ L.take n, R.W = [] ∧ R.lo = R.hi) (h2 : ∀ R ∈ L.drop (n + 1), R.T = [] ∧ R.W = []) (h3 : lastOK (M.getD n 0) (L.take n) 0 = true) : RecsOK M L := by
  intro i j a b hij ha hb hx
  have front : ∀ (k : Nat) (R : Rec), k < n → L[k]? = some R → R.W = [] ∧ R.lo = R.hi := fun k R hk hR => h1 R (List.mem_of_getElem? (i := k) (by rw [List.getElem?_take, if_pos hk]; exact hR))
  have back : ∀ (k : Nat) (R : Rec), n < k → L[k]? = some R → R.T = [] ∧ R.W = [] := fun k R hk hR => h2 R (List.mem_of_getElem? (i := k - (n + 1)) (by rw [List.getElem?_drop, show n + 1 + (k - (n + 1)) = k from by omega]; exact hR))
  rcases Nat.lt_trichotomy j n with hj | hj | hj
  · have hB := front j b hj hb
    have hA := front i a (by omega) ha
    rcases hx with ⟨x, _, hx | hx⟩ | ⟨x, _, hx⟩
    · rw [hA.1] at hx; cases hx
    · omega
    · rw [hB.1] at hx; cases hx
  · subst hj
    have hA := front i a hij ha
    rcases hx with ⟨x, _, hx | hx⟩ | ⟨x, hx, _⟩
    · rw [hA.1] at hx; cases hx
    · omega
    · have := lastOK_get h3 (i := i) (R := a) (by rw [List.getElem?_take, if_pos hij]; exact ha) (by intro e; rw [e] at hx; cases hx)
      simpa using this
  · have hB := back j b hj hb
    rcases hx with ⟨x, hx, _⟩ | ⟨x, _, hx⟩
    · rw [hB.1] at hx; cases hx
    · rw [hB.2] at hx; cases hx
attribute [go_sem] Nat.zero_add
end Go.Proofs.Ytfnlcnnoedmfiaa.K
/- The bytes of a string as a row of one's own; what nobody writes any more. -/
namespace Go.Proofs.Ytfnlcnnoedmfiaa.K
open Go Go.RowKit
variable {P : Program} {N : Nat} {ops : Array Oper} {o : Oper} {r : List Oper} {s : St}
attribute [go_sem] Option.isSome_some Option.isSome_none Int.sub_zero
end Go.Proofs.Ytfnlcnnoedmfiaa.K
/- Tests of rows against nil; drawn regions with several writers; rows of sums. -/
namespace Go.Proofs.Ytfnlcnnoedmfiaa.K
open Go Go.RowKit
variable {P : Program} {N : Nat} {ops : Array Oper} {o : Oper} {r : List Oper} {s : St}
end Go.Proofs.Ytfnlcnnoedmfiaa.K
/- Functions that answer a row of their caller's own. -/
namespace Go.Proofs.Ytfnlcnnoedmfiaa.K
open Go Go.RowKit
variable {P : Program} {N : Nat} {ops : Array Oper} {o : Oper} {r : List Oper} {s : St}
attribute [go_sem] List.getElem?_cons_zero List.getElem?_cons_succ Int.toNat_sub
end Go.Proofs.Ytfnlcnnoedmfiaa.K
/- Walks whose states are set anew at will: slots forgotten, owned blocks numbered anew. -/
namespace Go.Proofs.Ytfnlcnnoedmfiaa.K
open Go Go.RowKit
variable {P : Program} {N : Nat}
structure AdvB (b : Nat) (m0 : Mem) (ρ0 : Ren) (w0 : World) (H0 : HM) (n : Nat) (m : Mem) (ρ : Ren) (w : World) (H : HM) : Prop where
  ext : Ext (Blk ρ0 H0 fun _ => True) m0 w0 m w
  place : ∀ c, Blk ρ H (fun _ => True) c → Blk ρ0 H0 (fun _ => True) c ∨ w0.heap.size ≤ c
  le : b ≤ n
  old : ∀ i, i < b → ρ i = ρ0 i
theorem Adv.toB {b n0 n : Nat} {m0 m : Mem} {ρ0 ρ : Ren} {w0 w : World} {H0 H : HM} (h : Adv n0 m0 ρ0 w0 H0 n m ρ w H) (hb : b ≤ n0) : AdvB b m0 ρ0 w0 H0 n m ρ w H :=
  ⟨h.ext, h.place, Nat.le_trans hb h.le, fun i hi => h.old i (Nat.lt_of_lt_of_le hi hb)⟩
theorem AdvB.trans {b n1 n2 : Nat} {m0 m1 m2 : Mem} {ρ0 ρ1 ρ2 : Ren} {w0 w1 w2 : World} {H0 H1 H2 : HM} (h : AdvB b m0 ρ0 w0 H0 n1 m1 ρ1 w1 H1) (k : AdvB b m1 ρ1 w1 H1 n2 m2 ρ2 w2 H2) :
    AdvB b m0 ρ0 w0 H0 n2 m2 ρ2 w2 H2 :=
  ⟨h.ext.trans k.ext h.place, fun c hc => (k.place c hc).elim (h.place c) (fun x => .inr (Nat.le_trans h.ext.size x)), k.le, fun i hi => (k.old i hi).trans (h.old i hi)⟩
def PostB (N b : Nat) (m0 : Mem) (ρ0 : Ren) (w0 : World) (H0 : HM) (Q : PX → St → Prop) (e : Exit) (a : Act) (w : World) : Prop :=
  ∃ px s m ρ, Q px s ∧ RX m ρ px e ∧ Inv N s m ρ a w ∧ AdvB b m0 ρ0 w0 H0 s.nx m ρ w s.H
def QW (P : Program) (N b : Nat) (c : Code) (s : St) (Q : PX → St → Prop) : Prop :=
  b ≤ s.nx ∧ ∀ m ρ a w, Inv N s m ρ a w → c.wp P (PostB N b m ρ w s.H Q) a w
theorem PostB.of_adv {b n1 : Nat} {m0 m1 : Mem} {ρ0 ρ1 : Ren} {w0 w1 : World} {H0 H1 : HM} {Q : PX → St → Prop} {e : Exit} {a : Act} {w : World} (hA : AdvB b m0 ρ0 w0 H0 n1 m1 ρ1 w1 H1)
    (h : PostB N b m1 ρ1 w1 H1 Q e a w) : PostB N b m0 ρ0 w0 H0 Q e a w := by
  obtain ⟨px, s, m, ρ, h1, h2, h3, h4⟩ := h
  exact ⟨px, s, m, ρ, h1, h2, h3, hA.trans h4⟩
variable {b : Nat}
theorem QW.region {id : Nat} {ops : Array Oper} {g : Bool} {s : St} {Q : PX → St → Prop} (hb : b ≤ s.nx) (h : PW P N (.region id ops g) s Q) : QW P N b (.region id ops g) s Q := by
  refine ⟨hb, fun m ρ a w hI => wp_mono (h m ρ a w hI) ?_⟩
  rintro e a' w' ⟨px, s', m', ρ', h1, h2, h3, h4⟩
  exact ⟨px, s', m', ρ', h1, h2, h3, h4.toB hb⟩
theorem QW.seq {x y : Code} {s : St} {Q : PX → St → Prop} (h : QW P N b x s (PX.then (fun s' => QW P N b y s' Q) Q)) : QW P N b (.seq x y) s Q := by
  refine ⟨h.1, fun m ρ a w hI => ?_⟩
  refine wp_seq (wp_mono (h.2 m ρ a w hI) ?_)
  rintro e a' w' ⟨px, s', m', ρ', hq, hr, hI', hA⟩
  cases px with
  | normal =>
    simp only [RX] at hr
    subst hr
    exact wp_mono (hq.2 m' ρ' a' w' hI') fun _ _ _ hp => hp.of_adv hA
  | exit i => simp only [RX] at hr; subst hr; exact ⟨.exit i, s', m', ρ', hq, rfl, hI', hA⟩
  | ret => simp only [RX] at hr; subst hr; exact ⟨.ret, s', m', ρ', hq, rfl, hI', hA⟩
  | panic p => obtain ⟨v, rfl, hv⟩ := hr; exact ⟨.panic p, s', m', ρ', hq, ⟨v, rfl, hv⟩, hI', hA⟩
theorem QW.skip {s : St} {Q : PX → St → Prop} (hb : b ≤ s.nx) (h : Q .normal s) : QW P N b .skip s Q :=
  ⟨hb, fun m ρ _ _ hI => wp_skip ⟨.normal, s, m, ρ, h, rfl, hI, (Adv.refl _ _ _ _ _).toB hb⟩⟩
theorem QW.exit {id : Nat} {s : St} {Q : PX → St → Prop} (hb : b ≤ s.nx) (h : Q (.exit id) s) : QW P N b (.exit id) s Q :=
  ⟨hb, fun m ρ _ _ hI => wp_exit ⟨.exit id, s, m, ρ, h, rfl, hI, (Adv.refl _ _ _ _ _).toB hb⟩⟩
theorem QW.ret {s : St} {Q : PX → St → Prop} (hb : b ≤ s.nx) (h : Q .ret s) : QW P N b .ret s Q :=
  ⟨hb, fun m ρ _ _ hI => wp_ret ⟨.ret, s, m, ρ, h, rfl, hI, (Adv.refl _ _ _ _ _).toB hb⟩⟩
theorem QW.cond {c : Operand} {x y : Code} {s : St} {Q : PX → St → Prop} {t : Bool} (hc : evP s.S c = .d (.val (.bool t))) (hb : b ≤ s.nx) (h1 : t = true → QW P N b x s Q) (h2 : t = false → QW P N b y s Q) :
    QW P N b (.cond c x y) s Q := by
  refine ⟨hb, fun m ρ a w hI => ?_⟩
  have hr := rep_eval hI.slots c
  rw [hc] at hr
  simp only [Rep, RepD] at hr
  exact wp_cond_split hr (fun hb => (h1 hb).2 m ρ a w hI) (fun hb => (h2 hb).2 m ρ a w hI)
theorem QW.block {id : Nat} {c : Code} {s : St} {Q : PX → St → Prop} (h : QW P N b c s (PX.inBlock id Q)) : QW P N b (.block id c) s Q := by
  refine ⟨h.1, fun m ρ a w hI => ?_⟩
  refine wp_block (wp_mono (h.2 m ρ a w hI) ?_)
  rintro e a' w' ⟨px, s', m', ρ', hq, hr, hI', hA⟩
  cases px with
  | normal => simp only [RX] at hr; subst hr; exact ⟨.normal, s', m', ρ', hq, rfl, hI', hA⟩
  | exit i =>
    simp only [RX] at hr; subst hr
    simp only [PX.inBlock] at hq
    simp only [Exit.inBlock]
    split
    · rename_i he
      rw [if_pos he] at hq
      exact ⟨.normal, s', m', ρ', hq, rfl, hI', hA⟩
    · rename_i he
      rw [if_neg he] at hq
      exact ⟨.exit i, s', m', ρ', hq, rfl, hI', hA⟩
  | ret => simp only [RX] at hr; subst hr; exact ⟨.ret, s', m', ρ', hq, rfl, hI', hA⟩
  | panic p => obtain ⟨v, rfl, hv⟩ := hr; exact ⟨.panic p, s', m', ρ', hq, ⟨v, rfl, hv⟩, hI', hA⟩
def View (N b : Nat) (s s' : St) : Prop :=
  ∀ m ρ a w, Inv N s m ρ a w → ∃ m' ρ', Inv N s' m' ρ' a w ∧ AdvB b m ρ w s.H s'.nx m' ρ' w s'.H
theorem View.of {s s' : St} (hb : b ≤ s'.nx) (h : ∀ m ρ a w, Inv N s m ρ a w → ∃ ρ', Inv N s' m ρ' a w ∧ (∀ c, Blk ρ' s'.H (fun _ => True) c → Blk ρ s.H (fun _ => True) c) ∧ ∀ i, i < b → ρ' i = ρ i) : View N b s s' := by
  intro m ρ a w hI
  obtain ⟨ρ', hI', hB, ho⟩ := h m ρ a w hI
  exact ⟨m, ρ', hI', ⟨Ext.refl _ _ _, fun c hc => .inl (hB c hc), hb, ho⟩⟩
theorem QW.view {c : Code} {s s' : St} {Q : PX → St → Prop} (hv : View N b s s') (hb : b ≤ s.nx) (h : QW P N b c s' Q) : QW P N b c s Q := by
  refine ⟨hb, fun m ρ a w hI => ?_⟩
  obtain ⟨m', ρ', hI', hA⟩ := hv m ρ a w hI
  exact wp_mono (h.2 m' ρ' a w hI') fun _ _ _ hp => hp.of_adv hA
theorem View.refl {s : St} (h : b ≤ s.nx) : View N b s s := View.of h fun _ ρ _ _ hI => ⟨ρ, hI, fun _ h => h, fun _ _ => rfl⟩
theorem QW.loop {c : Code} {s : St} {Q : PX → St → Prop} (I : Nat → St → Prop) (k : Nat) (hb : b ≤ s.nx) (h0 : ∃ s0, View N b s s0 ∧ I k s0) (round : ∀ k s, I k s → QW P N b c s (PX.then (fun s' => ∃ j, j < k ∧ ∃ s'', View N b s' s'' ∧ I j s'') Q)) : QW P N b (.loop c) s Q := by
  refine ⟨hb, fun m ρ a w hI => ?_⟩
  let R : Act → World → Nat → Prop := fun a' w' k => ∃ s' m' ρ', I k s' ∧ Inv N s' m' ρ' a' w' ∧ AdvB b m ρ w s.H s'.nx m' ρ' w' s'.H
  have hex : R a w k := by
    obtain ⟨s0, hv, hi⟩ := h0
    obtain ⟨m', ρ', hI', hA⟩ := hv m ρ a w hI
    exact ⟨s0, m', ρ', hi, hI', hA⟩
  open Classical in
  refine wp_loop (fun a' w' => ∃ k, R a' w' k) (fun a' w' => if h : ∃ k, R a' w' k ∧ ∀ j, R a' w' j → k ≤ j then Classical.choose h else 0) ⟨_, hex⟩ ?_
  intro a1 w1 h1
  obtain ⟨k1, h1'⟩ := h1
  have h1 := least k1 h1'
  have hspec := Classical.choose_spec h1
  generalize hk : Classical.choose h1 = kk at hspec
  obtain ⟨⟨s1, m1, ρ1, i1, v1, A1⟩, hmin⟩ := hspec
  refine wp_mono ((round kk s1 i1).2 m1 ρ1 a1 w1 v1) ?_
  rintro e a' w' ⟨px, s', m', ρ', hq, hr, hI', hA⟩
  cases px with
  | normal =>
    simp only [RX] at hr; subst hr
    obtain ⟨j, hlt, s'', hv, hi⟩ := hq
    obtain ⟨m2, ρ2, hI2, hA2⟩ := hv m' ρ' a' w' hI'
    have h2' : R a' w' j := ⟨s'', m2, ρ2, hi, hI2, (A1.trans hA).trans hA2⟩
    have h2 := least _ h2'
    refine ⟨⟨_, h2'⟩, ?_⟩
    simp only [dif_pos h1, dif_pos h2, hk]
    have := (Classical.choose_spec h2).2 _ h2'
    omega
  | exit i => simp only [RX] at hr; subst hr; exact ⟨.exit i, s', m', ρ', hq, rfl, hI', A1.trans hA⟩
  | ret => simp only [RX] at hr; subst hr; exact ⟨.ret, s', m', ρ', hq, rfl, hI', A1.trans hA⟩
  | panic p => obtain ⟨v, rfl, hv⟩ := hr; exact ⟨.panic p, s', m', ρ', hq, ⟨v, rfl, hv⟩, hI', A1.trans hA⟩
mutual
def PV.re (f : Nat → Nat) : PV → PV
  | .d x => .d x
  | .full l => .full l
  | .own id l => .own (f id) l
  | .vptr id off => .vptr (f id) off
  | .vrow id off n => .vrow (f id) off n
  | .room id n => .room (f id) n
  | .clo g l => .clo g (PV.res f l)
  | .agg l => .agg (PV.res f l)
  | .tuple l => .tuple (PV.res f l)
  | .cond g p => .cond g (PV.re f p)
  | .junk => .junk
def PV.res (f : Nat → Nat) : List PV → List PV
  | [] => []
  | x :: r => PV.re f x :: PV.res f r
end
theorem PV.res_d (f : Nat → Nat) : ∀ l : List D, PV.res f (l.map .d) = l.map .d
  | [] => rfl
  | x :: r => by simp only [List.map_cons, PV.res, PV.re, PV.res_d f r]
mutual
theorem Rep.re {m : Mem} {ρ : Ren} {f : Nat → Nat} : ∀ (p : PV) (v : Value), Rep m ρ (p.re f) v → Rep m (fun i => ρ (f i)) p v
  | .d x, v, e => by simpa [PV.re, Rep] using e
  | .full l, v, e => by simpa [PV.re, Rep] using e
  | .own id l, v, e => by simpa [PV.re, Rep] using e
  | .vptr id off, v, e => by simpa [PV.re, Rep] using e
  | .vrow id off n, v, e => by simpa [PV.re, Rep] using e
  | .room id n, v, e => by simpa [PV.re, Rep] using e
  | .clo g l, v, e => by
    simp only [PV.re, Rep] at e ⊢
    obtain ⟨vs, e1, e2⟩ := e
    exact ⟨vs, e1, RepP.re l vs e2⟩
  | .agg l, v, e => by
    simp only [PV.re, Rep] at e ⊢
    obtain ⟨vs, e1, e2, e3⟩ := e
    exact ⟨vs, e1, RepP.re l vs e2, e3⟩
  | .tuple l, v, e => by
    simp only [PV.re, Rep] at e ⊢
    obtain ⟨vs, e1, e2⟩ := e
    exact ⟨vs, e1, RepP.re l vs e2⟩
  | .cond g p, v, e => by
    simp only [PV.re, Rep] at e ⊢
    exact ⟨fun h => Rep.re p v (e.1 h), e.2⟩
  | .junk, v, e => by simp [Rep]
theorem RepP.re {m : Mem} {ρ : Ren} {f : Nat → Nat} : ∀ (l : List PV) (vs : List Value), RepP m ρ (PV.res f l) vs → RepP m (fun i => ρ (f i)) l vs
  | [], vs, e => by simpa [PV.res, RepP] using e
  | x :: r, vs, e => by
    simp only [PV.res, RepP] at e ⊢
    obtain ⟨v, vr, e1, e2, e3⟩ := e
    exact ⟨v, vr, e1, Rep.re x v e2, RepP.re r vr e3⟩
end
def HO.re (f : Nat → Nat) : HO → HO
  | .var l => .var (PV.res f l)
  | .spare sz n => .spare sz n
  | .dead => .dead
  | .wsp sz l => .wsp sz (PV.res f l)
def dfRe (f : Nat → Nat) : List (Nat × List PV) → List (Nat × List PV)
  | [] => []
  | x :: r => (x.1, PV.res f x.2) :: dfRe f r
theorem DfOK.re {m : Mem} {ρ : Ren} {f : Nat → Nat} : ∀ (l : List (Nat × List PV)) (ds : List Deferred), DfOK m ρ (dfRe f l) ds → DfOK m (fun i => ρ (f i)) l ds
  | [], _, h => h
  | x :: r, _, h => by
    obtain ⟨d, l', e1, e2, e3, e4⟩ := h
    exact ⟨d, l', e1, e2, RepP.re _ _ e3, DfOK.re r l' e4⟩
def Imp (p q : PV) : Prop := ∀ m ρ v, Rep m ρ p v → Rep m ρ q v
theorem Imp.refl {p : PV} : Imp p p := fun _ _ _ h => h
theorem Imp.toD {p : PV} {x : D} (h : p.toD = some x) : Imp p (.d x) := fun _ _ v e => by
  simp only [Rep]; exact Rep.toD p x v h e
def tab : List (Nat × PV) → Nat → PV
  | [], _ => .junk
  | x :: r, t => if t = x.1 then x.2 else tab r t
def lv : HO → Option HO
  | .var l => some (.var l)
  | .spare a b => some (.spare a b)
  | .dead => none
  | .wsp a l => some (.wsp a l)
theorem lv_some {x o : HO} (h : lv x = some o) : x = o := by
  cases x <;> simp only [lv, Option.some.injEq, reduceCtorEq] at h <;> exact h
def tabH : List HO → Nat → Option HO
  | [], _ => none
  | x :: _, 0 => lv x
  | _ :: r, i + 1 => tabH r i
def AtR (f : Nat → Nat) (S : Nat → PV) : List (Nat × PV) → Prop
  | [] => True
  | x :: r => Imp (S x.1) (x.2.re f) ∧ AtR f S r
def atH1 (f : Nat → Nat) (H : HM) (i : Nat) : HO → Prop
  | .var l => H (f i) = some (.var (PV.res f l))
  | .spare a b => H (f i) = some (.spare a b)
  | .dead => True
  | .wsp a l => H (f i) = some (.wsp a (PV.res f l))
def AtHR (f : Nat → Nat) (H : HM) : List HO → Nat → Prop
  | [], _ => True
  | x :: r, i => atH1 f H i x ∧ AtHR f H r (i + 1)
theorem tab_re {f : Nat → Nat} {S : Nat → PV} {m : Mem} {ρ : Ren} {t : Nat} {v : Value} (h : Rep m ρ (S t) v) : ∀ (L : List (Nat × PV)), AtR f S L → Rep m (fun i => ρ (f i)) (tab L t) v
  | [], _ => by simp [tab, Rep]
  | x :: r, hL => by
    unfold tab
    split
    · rename_i e
      subst e
      exact Rep.re _ _ (hL.1 _ _ _ h)
    · exact tab_re h r hL.2
theorem tabH_get {f : Nat → Nat} {H : HM} : ∀ (M : List HO) (k i : Nat) (o : HO), AtHR f H M k → tabH M i = some o → i < M.length ∧ H (f (k + i)) = some (o.re f)
  | [], _, _, _, _, h => by simp [tabH] at h
  | x :: r, k, 0, o, hM, h => by
    simp only [tabH] at h
    have e := lv_some h
    subst e
    refine ⟨by simp, ?_⟩
    have h1 := hM.1
    cases x with
    | var l => exact h1
    | spare a b => exact h1
    | dead => simp [lv] at h
    | wsp a l => exact h1
  | x :: r, k, i + 1, o, hM, h => by
    have := tabH_get r (k + 1) i o hM.2 h
    exact ⟨by simp; omega, by rw [show k + (i + 1) = k + 1 + i by omega]; exact this.2⟩
def fOf (F : List Nat) (nx i : Nat) : Nat := F.getD i (nx + i)
theorem EntryOK.re {m : Mem} {ρ ρ' : Ren} {w : World} {i j : Nat} {f : Nat → Nat} {o : HO} (hr : ρ' i = ρ j) (hρ : ∀ p v, Rep m ρ (PV.re f p) v → Rep m ρ' p v) (h : EntryOK m ρ w j (o.re f)) : EntryOK m ρ' w i o := by
  cases o with
  | var l =>
    simp only [HO.re, EntryOK] at h ⊢
    rcases h with ⟨e0, e⟩ | ⟨b, c, vs, tail, t, e1, e2, e3, e4⟩
    · exact .inl ⟨by cases l with | nil => rfl | cons x r => simp [PV.res] at e0, by rw [hr]; exact e⟩
    refine .inr ⟨b, c, vs, tail, t, by rw [hr]; exact e1, e2, ?_, e4⟩
    have : ∀ (l : List PV) (vs : List Value), RepP m ρ (PV.res f l) vs → RepP m ρ' l vs := by
      intro l
      induction l with
      | nil => intro vs h; simpa [PV.res, RepP] using h
      | cons x r ih =>
        intro vs h
        simp only [PV.res, RepP] at h ⊢
        obtain ⟨v, vr, e1, e2, e3⟩ := h
        exact ⟨v, vr, e1, hρ _ _ e2, ih _ e3⟩
    exact this l vs e3
  | spare sz n =>
    simp only [HO.re, EntryOK] at h ⊢
    rw [hr]
    exact h
  | dead => exact h.elim
  | wsp sz l =>
    simp only [HO.re, EntryOK] at h ⊢
    rcases h with ⟨e0, e⟩ | ⟨b, c, vs, tail, t, e1, e2, e3, e4⟩
    · exact .inl ⟨by cases l with | nil => rfl | cons x r => simp [PV.res] at e0, by rw [hr]; exact e⟩
    refine .inr ⟨b, c, vs, tail, t, by rw [hr]; exact e1, e2, ?_, e4⟩
    have : ∀ (l : List PV) (vs : List Value), RepP m ρ (PV.res f l) vs → RepP m ρ' l vs := by
      intro l
      induction l with
      | nil => intro vs h; simpa [PV.res, RepP] using h
      | cons x r ih =>
        intro vs h
        simp only [PV.res, RepP] at h ⊢
        obtain ⟨v, vr, e1, e2, e3⟩ := h
        exact ⟨v, vr, e1, hρ _ _ e2, ih _ e3⟩
    exact this l vs e3
theorem View.mk {s : St} (n : Nat) (F : List Nat) (L : List (Nat × PV)) (M : List HO) (df : List (Nat × List PV)) (hn : M.length = n) (hF : F.length = M.length) (hd : F.Nodup) (hS : AtR (fOf F s.nx) s.S L) (hH : AtHR (fOf F s.nx) s.H M 0) (hdf : s.df = dfRe (fOf F s.nx) df)
    (hb : b ≤ M.length) (hfix : F.take b = List.range b) : View N b s ⟨tab L, tabH M, n, df⟩ := by
  subst hn
  refine View.of hb fun m ρ a w hI => ?_
  have hbig : ∀ i, M.length ≤ i → ρ (fOf F s.nx i) = none := by
    intro i hi
    have : fOf F s.nx i = s.nx + i := by
      unfold fOf
      rw [List.getD_eq_getElem?_getD, List.getElem?_eq_none (by omega)]; rfl
    rw [this]
    exact hI.rnil _ (Nat.le_add_right _ _)
  have hsm : ∀ i, i < M.length → ∃ x, F[i]? = some x ∧ fOf F s.nx i = x := by
    intro i hi
    refine ⟨F[i]'(by omega), List.getElem?_eq_getElem (by omega), ?_⟩
    unfold fOf
    rw [List.getD_eq_getElem?_getD, List.getElem?_eq_getElem (by omega)]; rfl
  have hlive : ∀ i o, tabH M i = some o → i < M.length ∧ s.H (fOf F s.nx i) = some (o.re (fOf F s.nx)) := by
    intro i o h
    have := tabH_get M 0 i o hH h
    rw [Nat.zero_add] at this
    exact this
  have hne : ∀ i, tabH M i ≠ none → i < M.length ∧ s.H (fOf F s.nx i) ≠ none := by
    intro i h
    cases hh : tabH M i with
    | none => exact absurd hh h
    | some o => have := hlive i o hh; exact ⟨this.1, by rw [this.2]; simp⟩
  refine ⟨fun i => ρ (fOf F s.nx i), ⟨hI.size, ?_, ?_, ⟨hI.valid.mem, ?_, ?_⟩, ?_, hbig⟩, ?_, ?_⟩
  · have := hI.defers
    rw [hdf] at this
    exact DfOK.re df _ this
  · intro t
    exact tab_re (hI.slots t) L hS
  · intro i o _ ho
    have := hlive i o ho
    exact EntryOK.re rfl (fun p v h => Rep.re p v h) (hI.valid.entry _ _ trivial this.2)
  · intro i j c d d' _ _ hi hj hri hrj
    have h1 := hne i hi
    have h2 := hne j hj
    have := hI.valid.apart _ _ _ _ _ trivial trivial h1.2 h2.2 hri hrj
    obtain ⟨x, hx, ex⟩ := hsm i h1.1
    obtain ⟨y, hy, ey⟩ := hsm j h2.1
    rw [ex, ey] at this
    subst this
    have e1 := List.getElem?_eq_some_iff.1 hx
    have e2 := List.getElem?_eq_some_iff.1 hy
    obtain ⟨l1, e1⟩ := e1
    obtain ⟨l2, e2⟩ := e2
    exact (List.getElem_inj hd).1 (e1.trans e2.symm)
  · intro i hi
    cases hh : tabH M i with
    | none => exact hh
    | some o => have := (hlive i o hh).1; have hi' : M.length ≤ i := hi; omega
  · rintro c ⟨i, d, _, hl, hr⟩
    exact ⟨fOf F s.nx i, d, trivial, (hne i hl).2, hr⟩
  · intro i hi
    have h1 : F[i]? = some i := by
      have h2 : (F.take b)[i]? = (List.range b)[i]? := by rw [hfix]
      rw [List.getElem?_take, if_pos hi, List.getElem?_range hi] at h2
      exact h2
    show ρ (fOf F s.nx i) = ρ i
    unfold fOf
    rw [List.getD_eq_getElem?_getD, h1]; rfl
theorem Fun.of_bodyQ {f : Nat} {fn : Func} {c : Code} {args : List D} {res : D} (hf : P.funcs[f]? = some fn) (hb : fn.body = some c) (hN : args.length ≤ fn.ntmps)
    (h : QW P fn.ntmps 0 c ⟨initS args, fun _ => none, 0, []⟩ (Ends P fn.results.toList fun p => p.toD = some res)) : Fun P f args res := by
  intro m w vs hm hr
  refine calls_of_wp hf hb (wp_mono (h.2 m _ _ w (init_inv hm hr hN)) ?_)
  rintro e a w' ⟨px, s, m', ρ', ⟨hpx, hdf, hres, hp⟩, hrx, hI, hA⟩
  obtain ⟨v, hv, hrep⟩ := run_results (P := P) hI hres
  have hd := hI.defers
  rw [hdf] at hd
  have hE : Ext (fun _ => False) m w m' w' := hA.ext.mono (by rintro b ⟨i, c, _, h, _⟩; exact absurd rfl h)
  have key : a.defers = [] ∧ ∃ v, (results fn a.tmps).run P w' = .ok v w' ∧ ∃ v_1 m', Ending.returned v = .returned v_1 ∧ RepD m' res v_1 ∧ MemOK m' w' ∧ Ext (fun _ => False) m w m' w' :=
    ⟨hd, v, hv, v, m', rfl, Rep.toD _ _ _ hp hrep, hI.valid.mem, hE⟩
  rcases hpx with rfl | rfl <;> simp only [RX] at hrx <;> subst hrx <;> exact key
end Go.Proofs.Ytfnlcnnoedmfiaa.K
/- One operation at a time, each by a law that tells its value in the form wanted. -/
namespace Go.Proofs.Ytfnlcnnoedmfiaa.K
open Go Go.RowKit
variable {P : Program} {N : Nat} {ops : Array Oper} {o : Oper} {r : List Oper} {s : St}
theorem OpSem.imp {o : Oper} {s : St} {v v' : PV} {H' : HM} {nx' : Nat} {T W : List Nat} (h : OpSem P o s v H' nx' T W) (hi : Imp v v') : OpSem P o s v' H' nx' T W :=
  ⟨h.le, h.keep, h.nil, h.sub, h.old, fun m ρ a w K Q V hf hx hK => h.sem m ρ a w K Q V hf hx fun u m' ρ' w' hD hr => hK u m' ρ' w' hD (hi _ _ _ hr)⟩
section
variable {S : Nat → PV} {H : HM} {nx : Nat} {df : List (Nat × List PV)}
theorem XK.st {Q : PX → St → Prop} (d : Option Nat) (hd : o.dst = d) (hg : o.guard = none) (h : stepF P [] o ⟨S, H, nx, df⟩ fun v H' nx' _ _ => XK P ops r ⟨putS S d v, H', nx', df⟩ Q) : XK P ops (o :: r) ⟨S, H, nx, df⟩ Q := by subst hd; exact XK.step hg h
theorem RK.st {acc : List Rec} {K : St → List Rec → Prop} (d : Option Nat) (hd : o.dst = d) (hg : o.guard = none) (h : stepF P [] o ⟨S, H, nx, df⟩ fun v H' nx' T W => RK P ops r ⟨putS S d v, H', nx', df⟩ (⟨T, W, nx, nx'⟩ :: acc) K) : RK P ops (o :: r) ⟨S, H, nx, df⟩ acc K := by subst hd; exact RK.step hg h
theorem RQ.st {Q : St → Prop} (d : Option Nat) (hd : o.dst = d) (hg : o.guard = none) (h : stepF P [] o ⟨S, H, nx, df⟩ fun v H' nx' _ W => (W = [] ∧ nx' = nx) ∧ RQ P ops r ⟨putS S d v, H', nx', df⟩ Q) : RQ P ops (o :: r) ⟨S, H, nx, df⟩ Q := by subst hd; exact RQ.step hg h
theorem XK.as {Q : PX → St → Prop} (d : Option Nat) (hd : o.dst = d) (hg : o.guard = none) (h : stepF P [] o ⟨S, H, nx, df⟩ fun v H' nx' _ _ => ∃ v', Imp v v' ∧ XK P ops r ⟨putS S d v', H', nx', df⟩ Q) : XK P ops (o :: r) ⟨S, H, nx, df⟩ Q := by
  intro hn
  subst hd
  obtain ⟨v, H', nx', T, W, h1, v', h2, h3⟩ := stepF_sound hn h
  exact .step (.run hg (h1.imp h2)) (h3 h1.nil)
theorem RK.as {acc : List Rec} {K : St → List Rec → Prop} (d : Option Nat) (hd : o.dst = d) (hg : o.guard = none) (h : stepF P [] o ⟨S, H, nx, df⟩ fun v H' nx' T W => ∃ v', Imp v v' ∧ RK P ops r ⟨putS S d v', H', nx', df⟩ (⟨T, W, nx, nx'⟩ :: acc) K) : RK P ops (o :: r) ⟨S, H, nx, df⟩ acc K := by
  intro hn
  subst hd
  obtain ⟨v, H', nx', T, W, h1, v', h2, h3⟩ := stepF_sound hn h
  obtain ⟨s', L, h4, h5⟩ := h3 h1.nil
  exact ⟨s', _, .cons (.run hg (h1.imp h2)) h4, by simpa using h5⟩
theorem XK.fz {Q : PX → St → Prop} (d : Option Nat) (hd : o.dst = d) (hg : o.guard = none) (h : stepF P d.toList o ⟨S, H, nx, df⟩ fun v H' nx' _ _ => XK P ops r ⟨putS S d v, H', nx', df⟩ Q) : XK P ops (o :: r) ⟨S, H, nx, df⟩ Q := by subst hd; exact XK.frozen hg h
end
section
variable {S : Nat → PV} {H : HM} {nx : Nat} {df : List (Nat × List PV)}
variable {frz : List Nat} {k : PV → HM → Nat → List Nat → List Nat → Prop}
theorem sf_move {x : Operand} {v : PV} (ho : o.op = .move x) (hx : evP S x = v) (hk : k v H nx [] []) : stepF P frz o ⟨S, H, nx, df⟩ k := by
  unfold stepF; rw [ho]; subst hx; exact ⟨trivial, hk⟩
theorem sf_assign {x : Operand} {v : PV} (ho : o.op = .assign x) (hx : evP S x = v) (hk : k v H nx [] []) : stepF P frz o ⟨S, H, nx, df⟩ k := by
  unfold stepF; rw [ho]; subst hx; exact ⟨trivial, hk⟩
def inI (n : Int) : Prop := -9223372036854775808 ≤ n ∧ n ≤ 9223372036854775807
instance (n : Int) : Decidable (inI n) := by unfold inI; exact inferInstance
theorem wrap_in {n : Int} (h : inI n) : IntKind.i64.wrap n = n := wrap_i64 h
theorem sf_bin {op : BinOp} {t u : TypeId} {x y : Operand} {p q v : PV} (ho : o.op = .binOp op t x y u) (hx : evP S x = p) (hy : evP S y = q) (hop : isEq op = false) (hv : (bin op p q).2) (he : (bin op p q).1 = v) (hk : k v H nx [] []) : stepF P frz o ⟨S, H, nx, df⟩ k := by
  unfold stepF; rw [ho]
  subst hx hy he
  cases op <;> first | (exact absurd hop (by decide)) | exact ⟨hv, hk⟩
theorem sf_add {t u : TypeId} {x y : Operand} {a b : Int} (ho : o.op = .binOp .add t x y u) (hx : evP S x = .d (.val (.int .i64 a))) (hy : evP S y = .d (.val (.int .i64 b))) (h : inI (a + b)) (hk : k (.d (.val (.int .i64 (a + b)))) H nx [] []) : stepF P frz o ⟨S, H, nx, df⟩ k :=
  sf_bin ho hx hy rfl rfl (by show PV.d (.val (.int .i64 (IntKind.i64.wrap (a + b)))) = _; rw [wrap_in h]) hk
theorem sf_sub {t u : TypeId} {x y : Operand} {a b : Int} (ho : o.op = .binOp .sub t x y u) (hx : evP S x = .d (.val (.int .i64 a))) (hy : evP S y = .d (.val (.int .i64 b))) (h : inI (a - b)) (hk : k (.d (.val (.int .i64 (a - b)))) H nx [] []) : stepF P frz o ⟨S, H, nx, df⟩ k :=
  sf_bin ho hx hy rfl rfl (by show PV.d (.val (.int .i64 (IntKind.i64.wrap (a - b)))) = _; rw [wrap_in h]) hk
theorem sf_mul {t u : TypeId} {x y : Operand} {a b : Int} (ho : o.op = .binOp .mul t x y u) (hx : evP S x = .d (.val (.int .i64 a))) (hy : evP S y = .d (.val (.int .i64 b))) (h : inI (a * b)) (hk : k (.d (.val (.int .i64 (a * b)))) H nx [] []) : stepF P frz o ⟨S, H, nx, df⟩ k :=
  sf_bin ho hx hy rfl rfl (by show PV.d (.val (.int .i64 (IntKind.i64.wrap (a * b)))) = _; rw [wrap_in h]) hk
theorem sf_quo {t u : TypeId} {x y : Operand} {a b : Int} (ho : o.op = .binOp .quo t x y u) (hx : evP S x = .d (.val (.int .i64 a))) (hy : evP S y = .d (.val (.int .i64 b))) (h : b ≠ 0 ∧ inI (a.tdiv b)) (hk : k (.d (.val (.int .i64 (a.tdiv b)))) H nx [] []) : stepF P frz o ⟨S, H, nx, df⟩ k :=
  sf_bin ho hx hy rfl ⟨rfl, h.1⟩ (by show PV.d (.val (.int .i64 (IntKind.i64.wrap (a.tdiv b)))) = _; rw [wrap_in h.2]) hk
theorem sf_rem {t u : TypeId} {x y : Operand} {a b : Int} (ho : o.op = .binOp .rem t x y u) (hx : evP S x = .d (.val (.int .i64 a))) (hy : evP S y = .d (.val (.int .i64 b))) (h : b ≠ 0) (hk : k (.d (.val (.int .i64 (a.tmod b)))) H nx [] []) : stepF P frz o ⟨S, H, nx, df⟩ k :=
  sf_bin ho hx hy rfl ⟨rfl, h⟩ rfl hk
theorem sf_lss {t u : TypeId} {x y : Operand} {a b : Int} {kd : IntKind} (ho : o.op = .binOp .lss t x y u) (hx : evP S x = .d (.val (.int kd a))) (hy : evP S y = .d (.val (.int kd b))) (hk : k (.d (.val (.bool (decide (a < b))))) H nx [] []) : stepF P frz o ⟨S, H, nx, df⟩ k :=
  sf_bin ho hx hy rfl rfl rfl hk
theorem sf_leq {t u : TypeId} {x y : Operand} {a b : Int} {kd : IntKind} (ho : o.op = .binOp .leq t x y u) (hx : evP S x = .d (.val (.int kd a))) (hy : evP S y = .d (.val (.int kd b))) (hk : k (.d (.val (.bool (decide (a ≤ b))))) H nx [] []) : stepF P frz o ⟨S, H, nx, df⟩ k :=
  sf_bin ho hx hy rfl rfl rfl hk
theorem sf_gtr {t u : TypeId} {x y : Operand} {a b : Int} {kd : IntKind} (ho : o.op = .binOp .gtr t x y u) (hx : evP S x = .d (.val (.int kd a))) (hy : evP S y = .d (.val (.int kd b))) (hk : k (.d (.val (.bool (decide (b < a))))) H nx [] []) : stepF P frz o ⟨S, H, nx, df⟩ k :=
  sf_bin ho hx hy rfl rfl rfl hk
theorem sf_geq {t u : TypeId} {x y : Operand} {a b : Int} {kd : IntKind} (ho : o.op = .binOp .geq t x y u) (hx : evP S x = .d (.val (.int kd a))) (hy : evP S y = .d (.val (.int kd b))) (hk : k (.d (.val (.bool (decide (b ≤ a))))) H nx [] []) : stepF P frz o ⟨S, H, nx, df⟩ k :=
  sf_bin ho hx hy rfl rfl rfl hk
theorem eqlX_int {t : TypeId} {kd kd' : IntKind} {a b : Int} : eqlX P t (.d (.val (.int kd a))) (.d (.val (.int kd' b))) = none := by
  unfold eqlX; split <;> simp_all
theorem eqlX_str {t : TypeId} {a b : ByteArray} : eqlX P t (.d (.val (.string a))) (.d (.val (.string b))) = none := by
  unfold eqlX; split <;> simp_all
theorem sf_eqn {op : BinOp} {t u : TypeId} {x y : Operand} {a b : Int} {kd : IntKind} {c : Bool} (ho : o.op = .binOp op t x y u) (hx : evP S x = .d (.val (.int kd a))) (hy : evP S y = .d (.val (.int kd b))) (hop : (op = .eql ∧ c = decide (a = b)) ∨ (op = .neq ∧ c = !decide (a = b)))
    (hk : k (.d (.val (.bool c))) H nx [] []) : stepF P frz o ⟨S, H, nx, df⟩ k := by
  unfold stepF; rw [ho]
  rcases hop with ⟨rfl, rfl⟩ | ⟨rfl, rfl⟩
  · simp only [isEq, aggy, hx, hy, Bool.and_false, Bool.false_eq_true, if_false, binX, eqlX_int]
    exact ⟨rfl, hk⟩
  · simp only [isEq, aggy, hx, hy, Bool.and_false, Bool.false_eq_true, if_false, binX, eqlX_int]
    exact ⟨rfl, hk⟩
theorem sf_eq {t u : TypeId} {x y : Operand} {a b : Int} {kd : IntKind} (ho : o.op = .binOp .eql t x y u) (hx : evP S x = .d (.val (.int kd a))) (hy : evP S y = .d (.val (.int kd b))) (hk : k (.d (.val (.bool (decide (a = b))))) H nx [] []) : stepF P frz o ⟨S, H, nx, df⟩ k :=
  sf_eqn ho hx hy (.inl ⟨rfl, rfl⟩) hk
theorem sf_ne {t u : TypeId} {x y : Operand} {a b : Int} {kd : IntKind} (ho : o.op = .binOp .neq t x y u) (hx : evP S x = .d (.val (.int kd a))) (hy : evP S y = .d (.val (.int kd b))) (hk : k (.d (.val (.bool (!decide (a = b))))) H nx [] []) : stepF P frz o ⟨S, H, nx, df⟩ k :=
  sf_eqn ho hx hy (.inr ⟨rfl, rfl⟩) hk
abbrev sV (l : List UInt8) : Value := .string ⟨l.toArray⟩
theorem sf_seq {t u : TypeId} {x y : Operand} {a b : List UInt8} (ho : o.op = .binOp .eql t x y u) (hx : evP S x = .d (.val (sV a))) (hy : evP S y = .d (.val (sV b))) (hk : k (.d (.val (.bool (a == b)))) H nx [] []) : stepF P frz o ⟨S, H, nx, df⟩ k := by
  unfold stepF; rw [ho]
  simp only [isEq, aggy, hx, hy, Bool.and_false, Bool.false_eq_true, if_false, binX, eqlX_str, bin, str_toList]
  exact ⟨trivial, hk⟩
theorem sf_cat {t u : TypeId} {x y : Operand} {a b : List UInt8} (ho : o.op = .binOp .add t x y u) (hx : evP S x = .d (.val (sV a))) (hy : evP S y = .d (.val (sV b))) (h : a.length + b.length ≤ 9223372036854775807) (hk : k (.d (.val (sV (a ++ b)))) H nx [] []) : stepF P frz o ⟨S, H, nx, df⟩ k :=
  sf_bin ho hx hy rfl (by show ((_ + _ : Nat) : Int) ≤ IntKind.i64.max; rw [str_size, str_size, i64_max]; omega) (by show PV.d (.val (.string _)) = _; rw [str_append]) hk
theorem sf_not {t : TypeId} {x : Operand} {a : Bool} (ho : o.op = .unOp .not t x) (hx : evP S x = .d (.val (.bool a))) (hk : k (.d (.val (.bool (!a)))) H nx [] []) : stepF P frz o ⟨S, H, nx, df⟩ k := by
  unfold stepF; rw [ho]; simp only [pureF, un, hx]; exact ⟨trivial, hk⟩
theorem sf_conv {t u : TypeId} {x : Operand} {p v : PV} (ho : o.op = .convert t u x) (hx : evP S x = p) (h1 : (convF P t u p).2) (h2 : (convF P t u p).1 = v) (hk : k v H nx [] []) : stepF P frz o ⟨S, H, nx, df⟩ k := by
  unfold stepF; rw [ho]; subst hx h2; exact ⟨h1, hk⟩
theorem convF_int {t u : TypeId} {d : TypeDesc} {kd kd' : IntKind} {n : Int} (ht : P.underlying t = some d) (hu : P.underlying u = some (.int kd)) : convF P t u (.d (.val (.int kd' n))) = (.d (.val (.int kd (kd.wrap n))), True) := by
  unfold convF; rw [ht, hu]
theorem sf_toI {t u : TypeId} {x : Operand} {n : Int} {kd' : IntKind} {d : TypeDesc} (ho : o.op = .convert t u x) (ht : P.underlying t = some d) (hu : P.underlying u = some (.int .i64)) (hx : evP S x = .d (.val (.int kd' n))) (h : inI n) (hk : k (.d (.val (.int .i64 n))) H nx [] []) : stepF P frz o ⟨S, H, nx, df⟩ k :=
  sf_conv ho hx (by rw [convF_int ht hu]; trivial) (by rw [convF_int ht hu, wrap_in h]) hk
def u8I (n : Int) : UInt8 := UInt8.ofNat (n % 256).toNat
theorem wrap_u8I (n : Int) : IntKind.u8.wrap n = ((u8I n).toNat : Int) := by
  rw [IntKind.wrap_u8]
  unfold u8I
  have h : (UInt8.ofNat (n % 256).toNat).toNat = (n % 256).toNat := by
    rw [UInt8.toNat_ofNat']; omega
  rw [h]; omega
theorem sf_toU8 {t u : TypeId} {x : Operand} {n : Int} {kd' : IntKind} {d : TypeDesc} (ho : o.op = .convert t u x) (ht : P.underlying t = some d) (hu : P.underlying u = some (.int .u8)) (hx : evP S x = .d (.val (.int kd' n))) (hk : k (.d (.val (.int .u8 ((u8I n).toNat : Int)))) H nx [] []) : stepF P frz o ⟨S, H, nx, df⟩ k :=
  sf_conv ho hx (by rw [convF_int ht hu]; trivial) (by rw [convF_int ht hu, wrap_u8I]) hk
theorem sf_b2s {t u e : TypeId} {x : Operand} {l : List UInt8} (ho : o.op = .convert t u x) (ht : P.underlying t = some (.slice e)) (he : P.underlying e = some (.int .u8)) (hu : P.underlying u = some .string) (hx : (evP S x).elems = some (l.map byteD)) (hk : k (.d (.val (sV l))) H nx [] []) : stepF P frz o ⟨S, H, nx, df⟩ k := by
  refine sf_conv (p := evP S x) ho rfl ?_ ?_ hk
  · unfold convF; rw [ht, hu]; simp only [hx]; exact ⟨he, isBytes_map l⟩
  · unfold convF; rw [ht, hu]; simp only [hx, bytesOf_map]
theorem sf_builtin {c : Call} {b : Builtin} {v : PV} (ho : o.op = .call c) (hc : c.callee = .builtin b) (hb : b ≠ .append) (h1 : (builtinF P S b c.args.toList c.argTypes.toList).2) (h2 : (builtinF P S b c.args.toList c.argTypes.toList).1 = v) (hk : k v H nx [] []) : stepF P frz o ⟨S, H, nx, df⟩ k := by
  unfold stepF; rw [ho]; simp only [hc]; subst h2
  cases b <;> first | exact absurd rfl hb | exact ⟨h1, hk⟩
theorem sf_lenS {x : Operand} {t : TypeId} {l : List UInt8} (ho : o.op = .call { callee := .builtin .len, args := #[x], argTypes := #[t] }) (ht : P.underlying t = some .string) (hx : evP S x = .d (.val (sV l))) (hk : k (.d (.val (.int .i64 (l.length : Int)))) H nx [] []) : stepF P frz o ⟨S, H, nx, df⟩ k :=
  sf_builtin ho rfl (by simp) (by show (lenF P t (evP S x)).2; unfold lenF; rw [ht, hx]; trivial) (by show (lenF P t (evP S x)).1 = _; unfold lenF; rw [ht, hx]; simp [str_size]) hk
theorem sf_lenL {x : Operand} {t e : TypeId} {α : Type} {en : α → D} {l : List α} (ho : o.op = .call { callee := .builtin .len, args := #[x], argTypes := #[t] }) (ht : P.underlying t = some (.slice e)) (hx : (evP S x).elems = some (l.map en)) (hk : k (.d (.val (.int .i64 (l.length : Int)))) H nx [] []) : stepF P frz o ⟨S, H, nx, df⟩ k :=
  sf_builtin ho rfl (by simp) (by show (lenF P t (evP S x)).2; unfold lenF; rw [ht]; simp only [hx]) (by show (lenF P t (evP S x)).1 = _; unfold lenF; rw [ht]; simp only [hx, List.length_map]) hk
def minI (a b : Int) : Int := if b < a then b else a
def maxI (a b : Int) : Int := if b > a then b else a
theorem sf_min {x y : Operand} {ts : Array TypeId} {a b : Int} {kd : IntKind} (ho : o.op = .call { callee := .builtin .min, args := #[x, y], argTypes := ts }) (hx : evP S x = .d (.val (.int kd a))) (hy : evP S y = .d (.val (.int kd b))) (hk : k (.d (.val (.int kd (minI a b)))) H nx [] []) : stepF P frz o ⟨S, H, nx, df⟩ k :=
  sf_builtin ho rfl (by simp) (by show (builtinF P S .min [x, y] _).2; simp only [builtinF, hx, hy]) (by show (builtinF P S .min [x, y] _).1 = _; simp only [builtinF, hx, hy, minI]) hk
theorem sf_max {x y : Operand} {ts : Array TypeId} {a b : Int} {kd : IntKind} (ho : o.op = .call { callee := .builtin .max, args := #[x, y], argTypes := ts }) (hx : evP S x = .d (.val (.int kd a))) (hy : evP S y = .d (.val (.int kd b))) (hk : k (.d (.val (.int kd (maxI a b)))) H nx [] []) : stepF P frz o ⟨S, H, nx, df⟩ k :=
  sf_builtin ho rfl (by simp) (by show (builtinF P S .max [x, y] _).2; simp only [builtinF, hx, hy]) (by show (builtinF P S .max [x, y] _).1 = _; simp only [builtinF, hx, hy, maxI]) hk
def idx {α : Type} [Inhabited α] (l : List α) (i : Int) : α := l.getD i.toNat default
def sub {α : Type} (l : List α) (lo hi : Int) : List α := (l.drop lo.toNat).take (hi - lo).toNat
theorem getD_map {α : Type} [Inhabited α] {en : α → D} {l : List α} {i : Int} (h : 0 ≤ i ∧ i < (l.length : Int)) : (l.map en).getD i.toNat default = en (idx l i) := by
  unfold idx
  have hi : i.toNat < l.length := by omega
  rw [List.getD_eq_getElem?_getD, List.getD_eq_getElem?_getD, List.getElem?_map, List.getElem?_eq_getElem hi]
  rfl
structure Lay {α : Type} (en : α → D) (c : α → List D) (n : Nat) : Prop where
  cells : ∀ x, (en x).cells = c x
  len : ∀ x, (c x).length = n
theorem lay_byte : Lay byteD (fun b => [byteD b]) 1 := ⟨fun _ => rfl, fun _ => rfl⟩
def eS (l : List UInt8) : D := .val (sV l)
theorem lay_S : Lay eS (fun b => [.val (sV b)]) 1 := ⟨fun _ => rfl, fun _ => rfl⟩
theorem Lay.all {α : Type} {en : α → D} {c : α → List D} {n : Nat} (h : Lay en c n) (l : List α) : ∀ x ∈ l.map en, x.cells.length = n := by
  intro x hx
  obtain ⟨y, _, rfl⟩ := List.mem_map.1 hx
  rw [h.cells, h.len]
theorem sf_idxA {α : Type} [Inhabited α] {en : α → D} {c : α → List D} {n by' : Nat} {ag : Bool} {t : TypeId} {x y : Operand} {l : List α} {i : Int} {kd : IntKind} (ho : o.op = .indexAddr t x y) (ht : slcA P t = some (n, by', ag)) (hl : Lay en c n) (hx : (evP S x).elems = some (l.map en)) (hy : evP S y = .d (.val (.int kd i)))
    (h : 0 ≤ i ∧ i < (l.length : Int)) (hk : k (.d (.cptr (c (idx l i)))) H nx [] []) : stepF P frz o ⟨S, H, nx, df⟩ k := by
  unfold stepF; rw [ho]
  simp only [pureF, indexAddrP, ht, hx, hy]
  refine ⟨⟨by simpa using h, hl.all l⟩, ?_⟩
  rw [getD_map h, hl.cells]
  exact hk
theorem sf_idxC {n sz : Nat} {ag : Bool} {t : TypeId} {x y : Operand} {l : List D} {i : Int} {kd : IntKind} (ho : o.op = .indexAddr t x y) (hs : slcA P t = none) (ht : arrA P t = some (n, sz, ag)) (hx : evP S x = .d (.cptr l)) (hy : evP S y = .d (.val (.int kd i)))
    (h : 0 ≤ i ∧ i < (n : Int)) (hk : k (.d (.cptr (l.drop (i.toNat * sz)))) H nx [] []) : stepF P frz o ⟨S, H, nx, df⟩ k := by
  unfold stepF; rw [ho]; simp only [pureF, indexAddrP, hs, ht, hx, hy]; exact ⟨h, hk⟩
theorem sf_idxV {n sz : Nat} {ag : Bool} {t : TypeId} {x y : Operand} {id off : Nat} {i : Int} {kd : IntKind} (ho : o.op = .indexAddr t x y) (hs : slcA P t = none) (ht : arrA P t = some (n, sz, ag)) (hx : evP S x = .vptr id off) (hy : evP S y = .d (.val (.int kd i)))
    (h : 0 ≤ i ∧ i < (n : Int)) (hk : k (.vptr id (off + i.toNat * sz)) H nx [] []) : stepF P frz o ⟨S, H, nx, df⟩ k := by
  unfold stepF; rw [ho]; simp only [pureF, indexAddrP, hs, ht, hx, hy]; exact ⟨h, hk⟩
theorem sf_idxS {t : TypeId} {x y : Operand} {l : List UInt8} {i : Int} {kd : IntKind} (ho : o.op = .index t x y) (ht : P.underlying t = some .string) (ha : arrA P t = none) (hx : evP S x = .d (.val (sV l))) (hy : evP S y = .d (.val (.int kd i)))
    (h : 0 ≤ i ∧ i < (l.length : Int)) (hk : k (.d (.val (.int .u8 ((idx l i).toNat : Int)))) H nx [] []) : stepF P frz o ⟨S, H, nx, df⟩ k := by
  unfold stepF; rw [ho]
  simp only [pureF, indexP, ha, hx, hy, str_size]
  exact ⟨⟨fun _ => ht, h⟩, hk⟩
theorem sf_fldC {t : TypeId} {f off n : Nat} {ag : Bool} {x : Operand} {l : List D} (ho : o.op = .fieldAddr t x f) (ht : fldA P t f = some (off, n, ag)) (hn : n ≠ 0) (hx : evP S x = .d (.cptr l)) (hk : k (.d (.cptr (l.drop off))) H nx [] []) : stepF P frz o ⟨S, H, nx, df⟩ k := by
  unfold stepF; rw [ho]; simp only [pureF, fieldAddrP, ht, hx]; exact ⟨hn, hk⟩
theorem sf_fldV {t : TypeId} {f off n : Nat} {ag : Bool} {x : Operand} {id p : Nat} (ho : o.op = .fieldAddr t x f) (ht : fldA P t f = some (off, n, ag)) (hn : n ≠ 0) (hx : evP S x = .vptr id p) (hk : k (.vptr id (p + off)) H nx [] []) : stepF P frz o ⟨S, H, nx, df⟩ k := by
  unfold stepF; rw [ho]; simp only [pureF, fieldAddrP, ht, hx]; exact ⟨hn, hk⟩
def LdC (ag : Bool) (n : Nat) (l : List D) (d : D) : Prop := match ag with
  | true => n ≤ l.length ∧ D.agg (l.take n) = d
  | false => l ≠ [] ∧ l.headD default = d
theorem LdC.one {n : Nat} {d : D} {r : List D} : LdC false n (d :: r) d := ⟨by simp, rfl⟩
theorem sf_ldC {t : TypeId} {x : Operand} {l : List D} {ag : Bool} {n : Nat} {d : D} (ho : o.op = .load t x) (ht : tyA P t = some (ag, n)) (hx : evP S x = .d (.cptr l)) (h : LdC ag n l d) (hk : k (.d d) H nx [] []) : stepF P frz o ⟨S, H, nx, df⟩ k := by
  unfold stepF; rw [ho]; simp only [hx, ht]
  cases ag with
  | true => obtain ⟨h1, rfl⟩ := h; exact ⟨h1, hk⟩
  | false => obtain ⟨h1, rfl⟩ := h; exact ⟨h1, hk⟩
def LdV (ag : Bool) (n off : Nat) (l : List PV) (v : PV) : Prop := (off + n ≤ l.length ∧ 0 < n) ∧ partP ag l off n = v
theorem sf_ldV {t : TypeId} {x : Operand} {id off : Nat} {l : List PV} {ag : Bool} {n : Nat} {v : PV} (ho : o.op = .load t x) (ht : tyA P t = some (ag, n)) (hx : evP S x = .vptr id off) (hH : H id = some (.var l)) (h : LdV ag n off l v) (hk : k v H nx [id] []) : stepF P frz o ⟨S, H, nx, df⟩ k := by
  unfold stepF; rw [ho]; simp only [hx, ht, hH, loadV]
  obtain ⟨h1, rfl⟩ := h; exact ⟨h1, hk⟩
theorem sf_stV {t : TypeId} {x y : Operand} {id off n : Nat} {ag : Bool} {l c l' : List PV} {v : PV} (ho : o.op = .store t x y) (ht : tyA P t = some (ag, n)) (hx : evP S x = .vptr id off) (hH : H id = some (.var l)) (hy : evP S y = v) (hs : v.solid = true) (hc : v.cellsP = c) (hn : c.length = n) (hf : off + n ≤ l.length) (hl : spl l off c = l')
    (hk : k .junk (putH H id (some (.var l'))) nx [id] [id]) : stepF P frz o ⟨S, H, nx, df⟩ k := by
  unfold stepF; rw [ho]; simp only [hx, ht, hH, hy, hc, hl]
  exact ⟨⟨hs, hn, hf⟩, hk⟩
theorem sf_alloc {t : TypeId} {z : List Value} {l : List PV} (ho : o.op = .alloc t) (ht : zeroA P t = some z) (h1 : z.all Value.oneCell' = true) (hl : z.map cellV = l) (hk : k (.vptr nx 0) (putH H nx (some (.var l))) (nx + 1) [] []) : stepF P frz o ⟨S, H, nx, df⟩ k := by
  unfold stepF; rw [ho]; simp only [ht, hl]; exact ⟨h1, hk⟩
theorem sf_boxF {t : TypeId} {x : Operand} {v : PV} {ds : List D} (ho : o.op = .box t x) (hf : frozenDst frz o.dst = true) (hx : evP S x = v) (hs : v.solid = true) (hd : PV.toDs v.cellsP = some ds) (hk : k (.d (.cptr ds)) H nx [] []) : stepF P frz o ⟨S, H, nx, df⟩ k := by
  unfold stepF; rw [ho]; simp only [hx, hd]; rw [if_pos hf]; exact ⟨hs, hk⟩
theorem sf_extract {x : Operand} {i : Nat} {l : List D} {d : D} (ho : o.op = .extract x i) (hx : evP S x = .d (.tuple l)) (h : l[i]? = some d) (hk : k (.d d) H nx [] []) : stepF P frz o ⟨S, H, nx, df⟩ k := by
  unfold stepF; rw [ho]; simp only [pureF, extractP, hx]
  have hi := (List.getElem?_eq_some_iff.1 h).1
  refine ⟨hi, ?_⟩
  rw [List.getD_eq_getElem?_getD, h]; exact hk
theorem sf_subS {t : TypeId} {x : Operand} {lo hi : Option Operand} {l : List UInt8} {a b : Int} (ho : o.op = .slice t x lo hi none) (ht : P.underlying t = some .string) (hx : evP S x = .d (.val (sV l))) (ha : bnd 0 (lo.map (evP S)) = some a) (hb : bnd (l.length : Int) (hi.map (evP S)) = some b)
    (h : 0 ≤ a ∧ a ≤ b ∧ b ≤ (l.length : Int)) (hk : k (.d (.val (sV (sub l a b)))) H nx [] []) : stepF P frz o ⟨S, H, nx, df⟩ k := by
  unfold stepF; rw [ho]
  simp only [pureF, slcF, ht, hx, ha, str_size, Option.map_none, hb]
  refine ⟨h, ?_⟩
  rw [str_extract]
  have e : b.toNat - a.toNat = (b - a).toNat := by omega
  rw [e]
  exact hk
theorem sf_subL {α : Type} {en : α → D} {c : α → List D} {n by' : Nat} {ag : Bool} {t e : TypeId} {x : Operand} {lo hi : Option Operand} {l : List α} {a b : Int} (ho : o.op = .slice t x lo hi none) (hu : P.underlying t = some (.slice e)) (ht : slcA P t = some (n, by', ag)) (hl : Lay en c n) (hx : (evP S x).elems = some (l.map en))
    (ha : bnd 0 (lo.map (evP S)) = some a) (hb : bnd (l.length : Int) (hi.map (evP S)) = some b) (h : 0 ≤ a ∧ a ≤ b ∧ b ≤ (l.length : Int)) (hk : k (.d (.slice ((sub l a b).map en))) H nx [] []) : stepF P frz o ⟨S, H, nx, df⟩ k := by
  unfold stepF; rw [ho]
  simp only [pureF, slcF, hu, ht, hx, ha, Option.map_none, List.length_map, hb]
  refine ⟨⟨h, hl.all l⟩, ?_⟩
  rw [← List.map_drop, ← List.map_take]
  exact hk
theorem sf_row {α : Type} {en : α → D} {c : α → List D} {n by' : Nat} {t : TypeId} {sz : Nat} {parts : Array (Nat × Operand)} {l : List α} (ho : o.op = .buildSlice t sz parts) (ht : rowA P t = some (n, by')) (hl : Lay en c n) (hx : PV.toDs (partsP S parts.toList) = some (l.map en)) (h1 : keysOf parts.toList = List.range sz) (h2 : sz * n ≤ 2 ^ 24)
    (h3 : solids (partsP S parts.toList)) (hk : k (.full (l.map en)) H nx [] []) : stepF P frz o ⟨S, H, nx, df⟩ k := by
  unfold stepF; rw [ho]; simp only [pureF, ht, hx]
  exact ⟨⟨h1, h2, h3, hl.all l⟩, hk⟩
theorem sf_appO {α : Type} {en : α → D} {c : α → List D} {n by' id : Nat} {t u : TypeId} {d : TypeDesc} {x y : Operand} {l l2 : List α} (ho : o.op = .call { callee := .builtin .append, args := #[x, y], argTypes := #[t, u] }) (ht : rowA P t = some (n, by')) (hu : P.underlying u = some d) (hd : notInt d = true) (hl : Lay en c n)
    (hx : evP S x = .own id (l.map en)) (hH : H id = some (.spare n l.length)) (hy : (evP S y).more = some (l2.map en)) (h : (l.length + l2.length) * by' ≤ 140737488355328) (hb : 0 < by')
    (hk : k (.own nx ((l ++ l2).map en)) (putH (putH H id none) nx (some (.spare n (l ++ l2).length))) (nx + 1) [id] [id]) : stepF P frz o ⟨S, H, nx, df⟩ k := by
  unfold stepF; rw [ho]
  simp only [appendF, ht, hu, hy, hx, List.length_map]
  refine ⟨⟨hd, hH, hl.all l, hl.all l2⟩, ⟨h, ?_⟩, ?_⟩
  · have : (l.length + l2.length) * 1 ≤ (l.length + l2.length) * by' := Nat.mul_le_mul_left _ hb
    rw [maxLen_val]; omega
  · rw [← List.map_append, ← List.length_append]; exact hk
theorem sf_appF {α : Type} {en : α → D} {c : α → List D} {n by' : Nat} {t u : TypeId} {d : TypeDesc} {x y : Operand} {l l2 : List α} (ho : o.op = .call { callee := .builtin .append, args := #[x, y], argTypes := #[t, u] }) (ht : rowA P t = some (n, by')) (hu : P.underlying u = some d) (hd : notInt d = true) (hl : Lay en c n)
    (hx : evP S x = .full (l.map en)) (hy : (evP S y).more = some (l2.map en)) (h : (l.length + l2.length) * by' ≤ 140737488355328 ∧ (l2 = [] → l = [])) (hb : 0 < by')
    (hk : k (.own nx ((l ++ l2).map en)) (putH H nx (some (.spare n (l ++ l2).length))) (nx + 1) [] []) : stepF P frz o ⟨S, H, nx, df⟩ k := by
  unfold stepF; rw [ho]
  simp only [appendF, ht, hu, hy, hx, List.length_map]
  refine ⟨⟨hd, hl.all l, hl.all l2⟩, ⟨h.1, ?_, ?_⟩, ?_⟩
  · have : (l.length + l2.length) * 1 ≤ (l.length + l2.length) * by' := Nat.mul_le_mul_left _ hb
    rw [maxLen_val]; omega
  · intro e; rw [h.2 (List.map_eq_nil_iff.1 e)]; rfl
  · rw [← List.map_append, ← List.length_append]; exact hk
theorem sf_build {t : TypeId} {parts : Array (Nat × Operand)} {v : PV} (ho : o.op = .build t parts) (h1 : (buildP (bldA P t) (partsQ S parts.toList)).2) (h2 : (buildP (bldA P t) (partsQ S parts.toList)).1 = v) (hk : k v H nx [] []) : stepF P frz o ⟨S, H, nx, df⟩ k := by
  unfold stepF; rw [ho]; subst h2; exact ⟨h1, hk⟩
theorem sf_func {f : Nat} {caps : Array Operand} {v : PV} (ho : o.op = .makeFunc (.func f) #[] caps) (h : cloP f (caps.toList.map (evP S)) = v) (hk : k v H nx [] []) : stepF P frz o ⟨S, H, nx, df⟩ k := by
  unfold stepF; rw [ho]; subst h; exact ⟨rfl, hk⟩
theorem sf_aggne {t u : TypeId} {x y : Operand} {dx dy : D} {b : Bool} (ho : o.op = .binOp .neq t x y u) (ha : aggy (evP S x) = true) (hx : (evP S x).toD = some dx) (hy : (evP S y).toD = some dy) (h : EqRun P t dx dy b) (hk : k (.d (.val (.bool (!b)))) H nx [] []) : stepF P frz o ⟨S, H, nx, df⟩ k := by
  unfold stepF; rw [ho]; simp only [isEq, ha, Bool.and_self, if_true, hx, hy]; exact ⟨b, h, hk⟩
theorem sf_call {c : Call} {f : Nat} {ds : List D} {d : D} (ho : o.op = .call c) (hc : c.callee = .value (.func f)) (he : entersB P f = true) (hd : PV.toDs (c.args.toList.map (evP S)) = some ds) (hF : Fun P f ds d) (hk : k (.d d) H nx [] []) : stepF P frz o ⟨S, H, nx, df⟩ k := by
  unfold stepF; rw [ho]; simp only [hc, hd]; exact ⟨he, d, hF, hk⟩
theorem sf_clo {c : Call} {t : Nat} {f : Nat} {ds caps : List D} {d : D} (ho : o.op = .call c) (hc : c.callee = .value (.tmp t)) (ht : S t = .d (.clo f caps)) (he : entersB P f = true) (hd : PV.toDs (c.args.toList.map (evP S)) = some ds) (hF : Fun P f (ds ++ caps) d) (hk : k (.d d) H nx [] []) : stepF P frz o ⟨S, H, nx, df⟩ k := by
  unfold stepF; rw [ho]; simp only [hc, evP, ht, hd]; exact ⟨he, d, hF, hk⟩
end
end Go.Proofs.Ytfnlcnnoedmfiaa.K
/- What the printed walks say between regions: cuts, results, what a cut's number of steps gives. -/
namespace Go.Proofs.Ytfnlcnnoedmfiaa.K
open Go Go.RowKit
variable {P : Program} {N b : Nat}
section
variable {next : St → Prop} {Q : PX → St → Prop} {s : St} {i id : Nat} {p : PV}
theorem nrm (h : next s) : PX.then next Q .normal s := h
theorem thX (h : Q (.exit i) s) : PX.then next Q (.exit i) s := h
theorem thR (h : Q .ret s) : PX.then next Q .ret s := h
theorem blN (h : Q .normal s) : PX.inBlock id Q .normal s := h
theorem blR (h : Q .ret s) : PX.inBlock id Q .ret s := h
theorem exE (h : Q .normal s) : PX.inBlock id Q (.exit id) s := by simp only [PX.inBlock, if_true]; exact h
end
theorem QW.seqI {x y : Code} {s : St} {Q : PX → St → Prop} (I : St → Prop) (h : QW P N b x s (PX.then (fun s' => ∃ s'', View N b s' s'' ∧ I s'') Q)) (hb : ∀ s', I s' → QW P N b y s' Q) : QW P N b (.seq x y) s Q := by
  refine ⟨h.1, fun m ρ a w hI => ?_⟩
  refine wp_seq (wp_mono (h.2 m ρ a w hI) ?_)
  rintro e a' w' ⟨px, s', m', ρ', hq, hr, hI', hA⟩
  cases px with
  | normal =>
    simp only [RX] at hr
    subst hr
    obtain ⟨s'', hv, hi⟩ := hq
    obtain ⟨m2, ρ2, hI2, hA2⟩ := hv m' ρ' a' w' hI'
    exact wp_mono ((hb s'' hi).2 m2 ρ2 a' w' hI2) fun _ _ _ hp => hp.of_adv (hA.trans hA2)
  | exit i => simp only [RX] at hr; subst hr; exact ⟨.exit i, s', m', ρ', hq, rfl, hI', hA⟩
  | ret => simp only [RX] at hr; subst hr; exact ⟨.ret, s', m', ρ', hq, rfl, hI', hA⟩
  | panic p => obtain ⟨v, rfl, hv⟩ := hr; exact ⟨.panic p, s', m', ρ', hq, ⟨v, rfl, hv⟩, hI', hA⟩
theorem View.trans {s s1 s2 : St} (h : View N b s s1) (k : View N b s1 s2) : View N b s s2 := by
  intro m ρ a w hI
  obtain ⟨m1, ρ1, hI1, hA1⟩ := h m ρ a w hI
  obtain ⟨m2, ρ2, hI2, hA2⟩ := k m1 ρ1 a w hI1
  exact ⟨m2, ρ2, hI2, hA1.trans hA2⟩
theorem View.buf {s : St} (t sz : Nat) (hs : s.S t = .full []) (hb : b ≤ s.nx) : View N b s ⟨putS s.S (some t) (.own s.nx []), putH s.H s.nx (some (.spare sz 0)), s.nx + 1, s.df⟩ := by
  refine View.of (Nat.le_trans hb (Nat.le_succ _)) fun m ρ a w hI => ?_
  have hslot := hI.slots t
  rw [hs] at hslot
  simp only [Rep] at hslot
  obtain ⟨ad, ev, _⟩ := hslot
  have nn : ∀ k, (∃ b c, ρ k = some (b, c)) → k ≠ s.nx := by
    rintro k ⟨b, c, h⟩ e
    subst e
    rw [hI.rnil _ (Nat.le_refl _)] at h; cases h
  have hI' : Inv N ⟨putS s.S (some t) (.own s.nx []), putH s.H s.nx (some (.spare sz 0)), s.nx + 1, s.df⟩ m ρ a w := by
    refine ⟨hI.size, hI.defers, fun i => ?_, ⟨hI.valid.mem, fun i o _ hH => ?_, fun i j b c c' _ _ hi hj hri hrj => ?_⟩, fun i hi => ?_, fun i hi => hI.rnil i (by have : s.nx + 1 ≤ i := hi; omega)⟩
    · simp only [putS_at]
      by_cases e : i = t
      · subst e
        simp only [if_true, Rep]
        exact .inr ⟨trivial, ad, ev⟩
      · simp only [e, if_false]; exact hI.slots i
    · simp only [putH_at] at hH
      by_cases e : i = s.nx
      · subst e
        simp only [if_true, Option.some.injEq] at hH
        subst hH
        exact .inl ⟨rfl, hI.rnil _ (Nat.le_refl _)⟩
      · simp only [e, if_false] at hH; exact hI.valid.entry i o trivial hH
    · have e1 := nn i ⟨b, c, hri⟩
      have e2 := nn j ⟨b, c', hrj⟩
      simp only [putH_at, e1, if_false] at hi
      simp only [putH_at, e2, if_false] at hj
      exact hI.valid.apart i j b c c' trivial trivial hi hj hri hrj
    · have h1 : s.nx + 1 ≤ i := hi
      have : i ≠ s.nx := by omega
      simp only [putH_at, this, if_false]
      exact hI.hnil i (by omega)
  refine ⟨ρ, hI', ?_, fun _ _ => rfl⟩
  rintro b' ⟨i, c, _, hl, hri⟩
  have := nn i ⟨b', c, hri⟩
  simp only [putH_at, this, if_false] at hl
  exact ⟨i, c, trivial, hl, hri⟩
def tabD : List D → Nat → List (Nat × PV)
  | [], _ => []
  | x :: r, i => (i, .d x) :: tabD r (i + 1)
theorem tabD_at : ∀ (l : List D) (i t : Nat), tab (tabD l i) (i + t) = initS l t
  | [], _, _ => by simp [tabD, tab, initS]
  | x :: r, i, 0 => by simp [tabD, tab, initS]
  | x :: r, i, t + 1 => by
    have := tabD_at r (i + 1) t
    unfold tabD tab
    rw [if_neg (by simp only; omega), show i + (t + 1) = i + 1 + t by omega, this]
    simp [initS]
theorem View.init {args : List D} {L : List (Nat × PV)} (h : L = tabD args 0) : View N 0 ⟨initS args, fun _ => none, 0, []⟩ ⟨tab L, tabH [], 0, []⟩ := by
  subst h
  have e1 : tab (tabD args 0) = initS args := by funext t; have := tabD_at args 0 t; rwa [Nat.zero_add] at this
  have e2 : tabH [] = fun _ => none := by funext i; rfl
  rw [e1, e2]
  exact View.refl (Nat.zero_le _)
def ResIs (P : Program) (s : St) (r : ResultVar) (p : PV) : Prop := (resP1 P s r).2 ∧ (resP1 P s r).1 = p
theorem ResIs.tmp {s : St} {t : Nat} {p : PV} (h : s.S t = p) : ResIs P s (.tmp t) p := ⟨trivial, h⟩
theorem ResIs.cell {s : St} {t id off n : Nat} {ty : TypeId} {ag : Bool} {l : List PV} {p : PV} (hx : s.S t = .vptr id off) (hH : s.H id = some (.var l)) (ht : tyA P ty = some (ag, n)) (h : LdV ag n off l p) : ResIs P s (.cell t ty) p := by
  unfold ResIs resP1
  simp only [hx, hH, loadV, ht]
  exact ⟨h.1, h.2⟩
def ResAll (P : Program) (s : St) : List ResultVar → List PV → Prop
  | [], [] => True
  | r :: rs, p :: ps => ResIs P s r p ∧ ResAll P s rs ps
  | _, _ => False
theorem ResAll.spec {s : St} : ∀ (rs : List ResultVar) (ps : List PV), ResAll P s rs ps → (rs.map fun r => (resP1 P s r).1) = ps ∧ ∀ r ∈ rs, (resP1 P s r).2
  | [], [], _ => ⟨rfl, by simp⟩
  | r :: rs, p :: ps, h => by
    obtain ⟨h1, h2⟩ := h
    have := ResAll.spec rs ps h2
    refine ⟨by rw [List.map_cons, this.1, h1.2], ?_⟩
    intro x hx
    rcases List.mem_cons.1 hx with rfl | hx
    · exact h1.1
    · exact this.2 x hx
  | [], _ :: _, h => h.elim
  | _ :: _, [], h => h.elim
theorem Ends.one {s : St} {r : ResultVar} {p : PV} {x y : D} {px : PX} (hp : px = .normal ∨ px = .ret) (hd : s.df = []) (h : ResIs P s r p) (ht : p.toD = some x) (e : x = y) : Ends P [r] (fun p => p.toD = some y) px s :=
  ⟨hp, hd, h.1, by show (resP1 P s r).1.toD = _; rw [h.2, ht, e]⟩
theorem resP_two {s : St} {r r' : ResultVar} {rs : List ResultVar} : resP P (r :: r' :: rs) s = (.tuple ((r :: r' :: rs).map fun r => (resP1 P s r).1), ∀ x ∈ r :: r' :: rs, (resP1 P s x).2) := rfl
theorem Ends.more {s : St} {r r' : ResultVar} {rs : List ResultVar} {ps : List PV} {x y : D} {px : PX} (hp : px = .normal ∨ px = .ret) (hd : s.df = []) (h : ResAll P s (r :: r' :: rs) ps) (ht : (PV.tuple ps).toD = some x) (e : x = y) : Ends P (r :: r' :: rs) (fun p => p.toD = some y) px s := by
  have := ResAll.spec _ _ h
  refine ⟨hp, hd, ?_, ?_⟩
  · rw [resP_two]; exact this.2
  · rw [resP_two]; show PV.toD (.tuple _) = _; rw [this.1, ht, e]
section
variable {C R α : Type}
def goS (f : C → Option R) : Option (C ⊕ R) → Option R
  | some (.inl c) => f c
  | some (.inr r) => some r
  | none => none
def run (step : C → Option (C ⊕ R)) : Nat → C → Option R
  | 0, _ => none
  | n + 1, c => goS (run step n) (step c)
def Comes (step : C → Option (C ⊕ R)) (c : C) (r : R) : Prop := ∃ n, run step n c = some r
theorem Comes.stop {step : C → Option (C ⊕ R)} {c : C} {r : R} (h : step c = some (.inr r)) : Comes step c r := ⟨1, by simp only [run, h, goS]⟩
theorem Comes.next {step : C → Option (C ⊕ R)} {c c' : C} {r : R} (h : step c = some (.inl c')) (k : Comes step c' r) : Comes step c r := by
  obtain ⟨n, k⟩ := k
  exact ⟨n + 1, by simp only [run, h, goS]; exact k⟩
theorem run_succ {step : C → Option (C ⊕ R)} {n : Nat} {c : C} {r : R} (h : run step n c = some r) : ∃ m, n = m + 1 ∧ goS (run step m) (step c) = some r := by
  cases n with
  | zero => cases h
  | succ m => exact ⟨m, rfl, h⟩
def gO (c : Prop) [Decidable c] (t : Option α) : Option α := if c then t else none
theorem gO_pos {c : Prop} [Decidable c] {t : Option α} (h : c) : gO c t = t := if_pos h
theorem gO_get {c : Prop} [Decidable c] {t : Option α} {r : α} (h : gO c t = some r) : c ∧ t = some r := by
  unfold gO at h
  split at h
  · exact ⟨by assumption, h⟩
  · cases h
theorem gG {f : C → Option R} {c : Prop} [Decidable c] {t : Option (C ⊕ R)} {r : R} (h : goS f (gO c t) = some r) : c ∧ goS f t = some r := by
  unfold gO at h
  split at h
  · exact ⟨by assumption, h⟩
  · cases h
theorem bT {b : Bool} {x y : Option α} {r : α} (h : (bif b then x else y) = some r) (hb : b = true) : x = some r := by subst hb; exact h
theorem bF {b : Bool} {x y : Option α} {r : α} (h : (bif b then x else y) = some r) (hb : b = false) : y = some r := by subst hb; exact h
theorem bGT {f : C → Option R} {b : Bool} {x y : Option (C ⊕ R)} {r : R} (h : goS f (bif b then x else y) = some r) (hb : b = true) : goS f x = some r := by subst hb; exact h
theorem bGF {f : C → Option R} {b : Bool} {x y : Option (C ⊕ R)} {r : R} (h : goS f (bif b then x else y) = some r) (hb : b = false) : goS f y = some r := by subst hb; exact h
theorem bO {β : Type} {g : Option β} {k : β → Option α} {r : α} (h : g.bind k = some r) : ∃ x, g = some x ∧ k x = some r := Option.bind_eq_some_iff.1 h
theorem bG {β : Type} {f : C → Option R} {g : Option β} {k : β → Option (C ⊕ R)} {r : R} (h : goS f (g.bind k) = some r) : ∃ x, g = some x ∧ goS f (k x) = some r := by
  cases g with
  | none => cases h
  | some x => exact ⟨x, rfl, h⟩
theorem sO {v r : α} (h : some v = some r) : v = r := Option.some.inj h
theorem sG {f : C → Option R} {v r : R} (h : goS f (some (.inr v)) = some r) : v = r := Option.some.inj h
theorem jG {f : C → Option R} {c : C} {r : R} (h : goS f (some (.inl c)) = some r) : f c = some r := h
end
section
variable {ops : Array Oper} {o : Oper} {r : List Oper} {s : St}
theorem eqB {b w : Bool} (h : (b == w) = true) : b = w := by simpa using h
theorem condsOK_true {S : Nat → PV} : ∀ {l : List Operand}, condsOK true S l → ∀ x ∈ l, ∀ m ρ u, Rep m ρ (evP S x) u → Rep m ρ (asCond (evP S x)).2 u
  | [], _, x, hx => by cases hx
  | y :: r, h, x, hx => by
    intro m ρ u hr
    rcases List.mem_cons.1 hx with rfl | hx
    · exact asCond_rep hr (h.1 rfl)
    · exact condsOK_true h.2 x hx m ρ u hr
theorem step_gd {g : Bool} {v : PV} {T : List Nat} (hn : ∀ i, s.nx ≤ i → s.H i = none) (hg : guardP ops o s.S = some g) (hc : condsOK g s.S o.op.operands.toList)
    (h : g = true → stepF P [] o ⟨unS s.S, s.H, s.nx, s.df⟩ fun v' H' nx' T' W => (W = [] ∧ nx' = s.nx ∧ T' = T) ∧ H' = s.H ∧ Imp v' v) (hT : g = false → ∀ i ∈ T, i < s.nx) : StepOp P ops o s (.cond g v) s.H ⟨T, [], s.nx, s.nx⟩ := by
  refine .gd hg ?_ ?_
  · cases g with
    | false => exact hT rfl
    | true =>
      obtain ⟨v', H', nx', T', W, h1, ⟨⟨rfl, rfl, rfl⟩, rfl, _⟩⟩ := stepF_sound (s := ⟨unS s.S, s.H, s.nx, s.df⟩) hn (h rfl)
      exact h1.old
  · rintro rfl
    obtain ⟨v', H', nx', T', W, h1, ⟨⟨rfl, rfl, rfl⟩, rfl, hi⟩⟩ := stepF_sound (s := ⟨unS s.S, s.H, s.nx, s.df⟩) hn (h rfl)
    refine ⟨unS s.S, fun x hx m ρ u hr => ?_, h1.imp hi⟩
    rw [evP_unS]
    exact condsOK_true hc x (by simpa using hx) m ρ u hr
variable {S : Nat → PV} {H : HM} {nx : Nat} {df : List (Nat × List PV)}
theorem XK.gd {Q : PX → St → Prop} {g : Bool} {v : PV} {T : List Nat} (d : Option Nat) (hd : o.dst = d) (hg : guardP ops o S = some g) (hc : condsOK g S o.op.operands.toList)
    (h : g = true → stepF P [] o ⟨unS S, H, nx, df⟩ fun v' H' nx' T' W => (W = [] ∧ nx' = nx ∧ T' = T) ∧ H' = H ∧ Imp v' v) (hT : g = false → ∀ i ∈ T, i < nx)
    (k : XK P ops r ⟨putS S d (.cond g v), H, nx, df⟩ Q) : XK P ops (o :: r) ⟨S, H, nx, df⟩ Q := by subst hd; exact fun hn => .step (step_gd hn hg hc h hT) (k hn)
theorem RQ.gd {Q : St → Prop} {g : Bool} {v : PV} {T : List Nat} (d : Option Nat) (hd : o.dst = d) (hg : guardP ops o S = some g) (hc : condsOK g S o.op.operands.toList)
    (h : g = true → stepF P [] o ⟨unS S, H, nx, df⟩ fun v' H' nx' T' W => (W = [] ∧ nx' = nx ∧ T' = T) ∧ H' = H ∧ Imp v' v) (hT : g = false → ∀ i ∈ T, i < nx)
    (k : RQ P ops r ⟨putS S d (.cond g v), H, nx, df⟩ Q) : RQ P ops (o :: r) ⟨S, H, nx, df⟩ Q := by
  intro hn
  subst hd
  obtain ⟨s', L, h4, h5, h6⟩ := k hn
  refine ⟨s', _, .cons (step_gd hn hg hc h hT) h4, ?_, h6⟩
  intro R hR
  rcases List.mem_cons.1 hR with rfl | hR
  · exact ⟨rfl, rfl⟩
  · exact h5 R hR
variable {frz : List Nat} {k : PV → HM → Nat → List Nat → List Nat → Prop}
theorem sf_pickG {c x y : Operand} {b u v gx gy : Bool} (ho : o.op = .pick c x y) (hc : evP S c = .d (.val (.bool b))) (hx : asCond (evP S x) = (gx, .d (.val (.bool u)))) (hy : asCond (evP S y) = (gy, .d (.val (.bool v)))) (h1 : b = true → gx = true) (h2 : b = false → gy = true)
    (hk : k (.d (.val (.bool (bif b then u else v)))) H nx [] []) : stepF P frz o ⟨S, H, nx, df⟩ k := by
  unfold stepF; rw [ho]
  simp only [pureF, pickP, hc, hx, hy]
  exact ⟨⟨h1, h2⟩, hk⟩
theorem sf_pickA {c x y : Operand} {b u gx gy : Bool} (ho : o.op = .pick c x y) (hc : evP S c = .d (.val (.bool b))) (hx : asCond (evP S x) = (gx, .d (.val (.bool u)))) (hy : asCond (evP S y) = (gy, .d (.val (.bool false)))) (h1 : b = true → gx = true) (h2 : b = false → gy = true)
    (hk : k (.d (.val (.bool (b && u)))) H nx [] []) : stepF P frz o ⟨S, H, nx, df⟩ k :=
  sf_pickG ho hc hx hy h1 h2 (by cases b <;> exact hk)
theorem sf_pickO {c x y : Operand} {b v gx gy : Bool} (ho : o.op = .pick c x y) (hc : evP S c = .d (.val (.bool b))) (hx : asCond (evP S x) = (gx, .d (.val (.bool true)))) (hy : asCond (evP S y) = (gy, .d (.val (.bool v)))) (h1 : b = true → gx = true) (h2 : b = false → gy = true)
    (hk : k (.d (.val (.bool (b || v)))) H nx [] []) : stepF P frz o ⟨S, H, nx, df⟩ k :=
  sf_pickG ho hc hx hy h1 h2 (by cases b <;> exact hk)
theorem inI_u8 (a : UInt8) : inI (a.toNat : Int) := by have := byte_lt a; unfold inI; omega
end
end Go.Proofs.Ytfnlcnnoedmfiaa.K
/- Arrays; further operations on whole numbers; tests against nil. -/
namespace Go.Proofs.Ytfnlcnnoedmfiaa.K
open Go Go.RowKit
variable {P : Program} {N b : Nat} {ops : Array Oper} {o : Oper} {r : List Oper} {α : Type} {n : Nat} {en : α → D}
abbrev Arr (n : Nat) (α : Type) := {l : List α // l.length = n}
def Arr.rep (n : Nat) (x : α) : Arr n α := ⟨List.replicate n x, by simp⟩
instance instInhArr [Inhabited α] : Inhabited (Arr n α) := ⟨Arr.rep n default⟩
def Arr.put (a : Arr n α) (i : Int) (x : α) : Arr n α := ⟨a.1.set i.toNat x, by rw [List.length_set]; exact a.2⟩
def Pre (l : List D) (en : α → D) (a : Arr n α) : Prop := ∃ rest, l = a.1.map en ++ rest
theorem Pre.all (a : Arr n α) : Pre (a.1.map en) en a := ⟨[], by simp⟩
theorem ld_arr [Inhabited α] {l : List D} {a : Arr n α} {i : Int} {m : Nat} (hp : Pre l en a) (h : 0 ≤ i ∧ i < (n : Int)) : LdC false m (l.drop (i.toNat * 1)) (en (idx a.1 i)) := by
  obtain ⟨rest, rfl⟩ := hp
  have hi : i.toNat < a.1.length := by rw [a.2]; omega
  rw [Nat.mul_one, List.drop_append_of_le_length (by simpa using Nat.le_of_lt hi), List.drop_eq_getElem_cons (by simpa using hi)]
  refine ⟨by simp, ?_⟩
  simp [idx, List.getD_eq_getElem?_getD, List.getElem?_eq_getElem hi]
section
variable {S : Nat → PV} {H : HM} {nx : Nat} {df : List (Nat × List PV)} {frz : List Nat} {k : PV → HM → Nat → List Nat → List Nat → Prop}
theorem flat_maps (l : List α) : ((l.map en).map PV.d) = l.map fun x => .d (en x) := by simp
theorem spl_arr {a : Arr n α} {i : Int} {x : α} (h : 0 ≤ i ∧ i < (n : Int)) : spl ((a.1.map en).map PV.d) (0 + i.toNat * 1) [PV.d (en x)] = ((a.put i x).1.map en).map PV.d := by
  have hi : i.toNat < a.1.length := by rw [a.2]; omega
  simp only [spl, Nat.zero_add, Nat.mul_one, Arr.put]
  apply List.ext_getElem?
  intro j
  simp only [flat_maps, List.getElem?_map, List.getElem?_set]
  rcases Nat.lt_trichotomy j i.toNat with hj | hj | hj
  · rw [List.getElem?_append_left (by simp; omega), List.getElem?_take, if_pos hj, List.getElem?_map, if_neg (by omega)]
  · subst hj
    rw [List.getElem?_append_right (by simp; omega), if_pos rfl, if_pos hi]
    simp only [List.length_take, List.length_map, Nat.min_eq_left (Nat.le_of_lt hi), Nat.sub_self, List.cons_append, List.getElem?_cons_zero, Option.map_some]
  · rw [List.getElem?_append_right (by simp; omega), if_neg (by omega)]
    simp only [List.length_take, List.length_map, Nat.min_eq_left (Nat.le_of_lt hi)]
    rw [show j - i.toNat = (j - i.toNat - 1) + 1 by omega, List.cons_append, List.getElem?_cons_succ, List.nil_append, List.getElem?_drop, List.getElem?_map, List.length_singleton, show i.toNat + 1 + (j - i.toNat - 1) = j by omega]
theorem imp_arr {l : List D} : Imp (.agg (l.map .d)) (.d (.agg l)) := Imp.toD (by simp only [PV.toD, toDs_d, Option.map_some])
theorem spl_same {l c : List PV} (h : l.length = c.length) : spl l 0 c = c := by
  unfold spl
  rw [List.take_zero, List.nil_append, List.drop_eq_nil_of_le (by omega), List.append_nil]
theorem toDs_map {l : List D} : PV.toDs (l.map .d) = some l := toDs_d l
theorem sf_u8add {t u : TypeId} {x y : Operand} {p q : UInt8} (ho : o.op = .binOp .add t x y u) (hx : evP S x = .d (.val (.int .u8 (p.toNat : Int)))) (hy : evP S y = .d (.val (.int .u8 (q.toNat : Int)))) (hk : k (.d (.val (.int .u8 ((p + q).toNat : Int)))) H nx [] []) : stepF P frz o ⟨S, H, nx, df⟩ k :=
  sf_bin ho hx hy rfl rfl (by show PV.d (.val (.int .u8 (IntKind.u8.wrap _))) = _; rw [add_u8]) hk
theorem mul_u8 (a b : UInt8) : IntKind.u8.wrap ((a.toNat : Int) * (b.toNat : Int)) = (a * b).toNat := by
  rw [IntKind.wrap_u8, UInt8.toNat_mul]
  omega
theorem sf_u8mul {t u : TypeId} {x y : Operand} {p q : UInt8} (ho : o.op = .binOp .mul t x y u) (hx : evP S x = .d (.val (.int .u8 (p.toNat : Int)))) (hy : evP S y = .d (.val (.int .u8 (q.toNat : Int)))) (hk : k (.d (.val (.int .u8 ((p * q).toNat : Int)))) H nx [] []) : stepF P frz o ⟨S, H, nx, df⟩ k :=
  sf_bin ho hx hy rfl rfl (by show PV.d (.val (.int .u8 (IntKind.u8.wrap _))) = _; rw [mul_u8]) hk
theorem u8_ne {q : UInt8} (h : q ≠ 0) : (q.toNat : Int) ≠ 0 := by
  intro e; apply h; apply UInt8.toNat_inj.1; show q.toNat = 0; omega
theorem sf_u8quo {t u : TypeId} {x y : Operand} {p q : UInt8} (ho : o.op = .binOp .quo t x y u) (hx : evP S x = .d (.val (.int .u8 (p.toNat : Int)))) (hy : evP S y = .d (.val (.int .u8 (q.toNat : Int)))) (h : q ≠ 0) (hk : k (.d (.val (.int .u8 ((p / q).toNat : Int)))) H nx [] []) : stepF P frz o ⟨S, H, nx, df⟩ k := by
  refine sf_bin ho hx hy rfl ⟨rfl, u8_ne h⟩ ?_ hk
  show PV.d (.val (.int .u8 (IntKind.u8.wrap ((p.toNat : Int).tdiv (q.toNat : Int))))) = _
  have e : (p.toNat : Int).tdiv (q.toNat : Int) = ((p / q).toNat : Int) := by rw [UInt8.toNat_div]; rfl
  rw [e, wrap_toNat]
theorem sf_u8rem {t u : TypeId} {x y : Operand} {p q : UInt8} (ho : o.op = .binOp .rem t x y u) (hx : evP S x = .d (.val (.int .u8 (p.toNat : Int)))) (hy : evP S y = .d (.val (.int .u8 (q.toNat : Int)))) (h : q ≠ 0) (hk : k (.d (.val (.int .u8 ((p % q).toNat : Int)))) H nx [] []) : stepF P frz o ⟨S, H, nx, df⟩ k := by
  refine sf_bin ho hx hy rfl ⟨rfl, u8_ne h⟩ ?_ hk
  show PV.d (.val (.int .u8 ((p.toNat : Int).tmod (q.toNat : Int)))) = _
  have e : (p.toNat : Int).tmod (q.toNat : Int) = ((p % q).toNat : Int) := by rw [UInt8.toNat_mod]; rfl
  rw [e]
theorem sf_arrne {t u : TypeId} {x y : Operand} {p q : Arr n UInt8} (ho : o.op = .binOp .neq t x y u) (hb : arrB P t n = true) (hx : evP S x = .d (.agg (p.1.map byteD))) (hy : evP S y = .d (.agg (q.1.map byteD))) (hk : k (.d (.val (.bool (!(p.1 == q.1))))) H nx [] []) : stepF P frz o ⟨S, H, nx, df⟩ k :=
  sf_aggne ho (by rw [hx]; rfl) (by rw [hx]; rfl) (by rw [hy]; rfl) (EqRun.bytes hb _ _ p.2 q.2) hk
end
theorem ldv_ldc {l : List D} {off m : Nat} {d : D} (h : LdC false m (l.drop off) d) (hl : off + m ≤ l.length) (hm : 0 < m) : LdV false m off (l.map .d) (.d d) := by
  obtain ⟨h1, h2⟩ := h
  refine ⟨⟨by simpa using hl, hm⟩, ?_⟩
  simp only [partP, Bool.false_eq_true, if_false]
  rw [List.getD_eq_getElem?_getD, List.getElem?_map, List.getElem?_eq_getElem (by omega)]
  rw [List.drop_eq_getElem_cons (by omega)] at h2
  exact congrArg PV.d h2
theorem ldv_ldcA {l : List D} {off m : Nat} {c : List D} (h : LdC true m (l.drop off) (.agg c)) (hl : off + m ≤ l.length) (hm : 0 < m) : LdV true m off (l.map .d) (.agg (c.map .d)) := by
  obtain ⟨h1, h2⟩ := h
  refine ⟨⟨by simpa using hl, hm⟩, ?_⟩
  simp only [partP, if_true]
  injection h2 with h2
  rw [← List.map_drop, ← List.map_take, h2]
theorem len_map2 (a : Arr n α) : ((a.1.map en).map PV.d).length = n := by simp [a.2]
theorem spl_dd {c1 c2 : List D} (h : c1.length = c2.length) : spl (c1.map PV.d) 0 (c2.map PV.d) = c2.map PV.d := spl_same (by simpa using h)
theorem le_dd {c : List D} {m : Nat} (h : c.length = m) : 0 + m ≤ (c.map PV.d).length := by simp [h]
theorem len_dd {c : List D} {m : Nat} (h : c.length = m) : (c.map PV.d).length = m := by simpa using h
theorem ldv_dd {c : List D} {m : Nat} (h : c.length = m) (hm : 0 < m) : LdV true m 0 (c.map .d) (.agg (c.map .d)) := by
  refine ⟨⟨by simp [h], hm⟩, ?_⟩
  simp only [partP, if_true, List.drop_zero]
  rw [List.take_of_length_le (by simp [h])]
end Go.Proofs.Ytfnlcnnoedmfiaa.K
/- A law over few owned blocks, used where there are more: the frame of a call. -/
namespace Go.Proofs.Ytfnlcnnoedmfiaa.K
open Go Go.RowKit
variable {P : Program} {N b : Nat}
end Go.Proofs.Ytfnlcnnoedmfiaa.K
/- Functions that defer a call which recovers. -/
namespace Go.Proofs.Ytfnlcnnoedmfiaa.K
open Go Go.RowKit
variable {P : Program} {N b : Nat}
end Go.Proofs.Ytfnlcnnoedmfiaa.K
/- Structs that hold arrays: their cells, part by part. -/
namespace Go.Proofs.Ytfnlcnnoedmfiaa.K
open Go Go.RowKit
variable {P : Program} {α : Type} {n : Nat} {en : α → D} {A R R' : List D} {m j : Nat}
theorem ldc_skip {ag : Bool} {w : Nat} {d : D} (m j : Nat) (h : A.length = m) (H : LdC ag w (R.drop j) d) : LdC ag w ((A ++ R).drop (m + j)) d := by
  subst h
  rw [List.drop_append, List.drop_eq_nil_of_le (Nat.le_add_right _ _), List.nil_append, Nat.add_sub_cancel_left]
  exact H
theorem ldc_first (h : A.length = m) : LdC true m (A ++ R) (.agg A) := by
  subst h
  exact ⟨by simp, by rw [List.take_left]⟩
theorem ldc_all (h : A.length = m) : LdC true m A (.agg A) := by
  subst h
  exact ⟨Nat.le_refl _, by rw [List.take_length]⟩
theorem pre_skip {a : Arr n α} (m j : Nat) (h : A.length = m) (H : Pre (R.drop j) en a) : Pre ((A ++ R).drop (m + j)) en a := by
  subst h
  rw [List.drop_append, List.drop_eq_nil_of_le (Nat.le_add_right _ _), List.nil_append, Nat.add_sub_cancel_left]
  exact H
theorem spl_skip {c : List PV} (m j : Nat) (h : A.length = m) (H : spl (R.map PV.d) j c = R'.map PV.d) : spl ((A ++ R).map PV.d) (m + j) c = (A ++ R').map PV.d := by
  subst h
  unfold spl at H ⊢
  rw [List.map_append, List.take_append, List.drop_append, List.length_map, List.take_of_length_le (by simp), List.drop_eq_nil_of_le (by simp; omega), List.nil_append, Nat.add_sub_cancel_left, show A.length + j + c.length - A.length = j + c.length by omega, List.append_assoc, H, ← List.map_append]
theorem spl_first {c : List D} (h : A.length = m) (hc : c.length = m) : spl ((A ++ R).map PV.d) 0 (c.map PV.d) = (c ++ R).map PV.d := by
  subst h
  unfold spl
  rw [List.take_zero, List.nil_append, List.map_append, Nat.zero_add, List.length_map, hc, List.drop_append, List.drop_eq_nil_of_le (by simp), List.nil_append, List.length_map, Nat.sub_self, List.drop_zero, List.map_append]
theorem fill_nil {place : Nat → Option (Nat × Nat)} {cells : List PV} : (fillP place cells []).2 ∧ (fillP place cells []).1 = cells := ⟨trivial, rfl⟩
theorem fill_step {place : Nat → Option (Nat × Nat)} {cells cells' out : List PV} {i off size : Nat} {p : PV} {r : List (Nat × PV)} (hp : place i = some (off, size)) (hs : p.solid = true) (hl : p.cellsP.length = size) (hf : off + size ≤ cells.length)
    (hspl : spl cells off p.cellsP = cells') (H : (fillP place cells' r).2 ∧ (fillP place cells' r).1 = out) : (fillP place cells ((i, p) :: r)).2 ∧ (fillP place cells ((i, p) :: r)).1 = out := by
  unfold fillP
  simp only [hp]
  rw [hspl]
  exact ⟨⟨⟨hs, hl, hf⟩, H.1⟩, H.2⟩
theorem build_of {z : List Value} {pl : List (Nat × Nat) ⊕ Nat} {parts : List (Nat × PV)} {out : List PV} (hz : z.all Value.oneCell' = true) (H : (fillP (placeOf pl) (z.map cellV) parts).2 ∧ (fillP (placeOf pl) (z.map cellV) parts).1 = out) :
    (buildP (some (z, pl)) parts).2 ∧ (buildP (some (z, pl)) parts).1 = .agg out := ⟨⟨hz, H.1⟩, congrArg PV.agg H.2⟩
theorem sf_bld {o : Oper} {S : Nat → PV} {H : HM} {nx : Nat} {df : List (Nat × List PV)} {frz : List Nat} {k : PV → HM → Nat → List Nat → List Nat → Prop} {t : TypeId} {parts : Array (Nat × Operand)} {v : PV} {b : List Value × (List (Nat × Nat) ⊕ Nat)} (ho : o.op = .build t parts) (hb : bldA P t = some b)
    (h : (buildP (some b) (partsQ S parts.toList)).2 ∧ (buildP (some b) (partsQ S parts.toList)).1 = v) (hk : k v H nx [] []) : stepF P frz o ⟨S, H, nx, df⟩ k := sf_build ho (by rw [hb]; exact h.1) (by rw [hb]; exact h.2) hk
section
variable {C R' : Type} {step : C → Option (C ⊕ R')}
theorem run_mono : ∀ (n k : Nat) (c : C) (r : R'), run step n c = some r → run step (n + k) c = some r
  | 0, _, _, _, h => by cases h
  | n + 1, k, c, r, h => by
    rw [show n + 1 + k = (n + k) + 1 by omega]
    simp only [run] at h ⊢
    cases hs : step c with
    | none => rw [hs] at h; cases h
    | some x =>
      rw [hs] at h
      cases x with
      | inl c' => exact run_mono n k c' r h
      | inr r' => exact h
theorem Comes.unique {c : C} {r r2 : R'} (h : Comes step c r) (k : Comes step c r2) : r = r2 := by
  obtain ⟨n, h⟩ := h
  obtain ⟨m, k⟩ := k
  have h1 := run_mono n m c r h
  have h2 := run_mono m n c r2 k
  rw [Nat.add_comm m n, h1] at h2
  exact Option.some.inj h2
open Classical in
/-- What the steps from c come to. -/
noncomputable def theC (step : C → Option (C ⊕ R')) (c : C) : Option R' := if h : ∃ r, Comes step c r then some (Classical.choose h) else none
theorem theC_get {c : C} {r : R'} (h : theC step c = some r) : Comes step c r := by
  unfold theC at h
  split at h
  · rename_i hx
    cases h
    exact Classical.choose_spec hx
  · cases h
theorem theC_eq {c : C} {r : R'} (h : Comes step c r) : theC step c = some r := by
  unfold theC
  rw [dif_pos ⟨r, h⟩]
  exact congrArg some (Comes.unique (Classical.choose_spec ⟨r, h⟩) h)
end
end Go.Proofs.Ytfnlcnnoedmfiaa.K
/- Recursive reckonings; sums that may wrap; items as arguments. -/
namespace Go.Proofs.Ytfnlcnnoedmfiaa.K
open Go Go.RowKit
open Classical in
noncomputable def theR {α : Type} (f : Nat → Option α) : Option α := if h : ∃ r, ∃ n, ∀ m, n ≤ m → f m = some r then some (Classical.choose h) else none
theorem theR_get {α : Type} {f : Nat → Option α} {r : α} (h : theR f = some r) : ∃ n, f n = some r := by
  unfold theR at h
  split at h
  · rename_i hx
    cases h
    obtain ⟨n, hn⟩ := Classical.choose_spec hx
    exact ⟨n, hn n (Nat.le_refl n)⟩
  · cases h
theorem theR_eq {α : Type} {f : Nat → Option α} {r : α} (n : Nat) (h : ∀ m, n ≤ m → f m = some r) : theR f = some r := by
  unfold theR
  have hx : ∃ r, ∃ n, ∀ m, n ≤ m → f m = some r := ⟨r, n, h⟩
  rw [dif_pos hx]
  obtain ⟨k, hk⟩ := Classical.choose_spec hx
  have h1 := hk (max n k) (Nat.le_max_right n k)
  have h2 := h (max n k) (Nat.le_max_left n k)
  rw [h2] at h1
  exact h1.symm
def clash (a b : Rec) : Bool := b.T.any (fun x => a.W.any (· == x) || (Nat.ble a.lo x && Nat.blt x a.hi)) || a.T.any (fun x => b.W.any (· == x))
def recsB (M : List Nat) (L : List Rec) : Bool := (List.range L.length).all fun j => (List.range j).all fun i =>
  match L[i]?, L[j]? with
  | some a, some b => !(clash a b) || (M.getD j 0).testBit i
  | _, _ => true
theorem RecsOK.comp {M : List Nat} {L : List Rec} (h : recsB M L = true) : RecsOK M L := by
  intro i j a b hij ha hb hx
  have hj : j < L.length := (List.getElem?_eq_some_iff.1 hb).1
  have key := List.all_eq_true.1 (List.all_eq_true.1 h j (List.mem_range.2 hj)) i (List.mem_range.2 hij)
  rw [ha, hb] at key
  simp only [Bool.or_eq_true, Bool.not_eq_true'] at key
  rcases key with k | k
  · exfalso
    have : clash a b = true := by
      unfold clash
      rw [Bool.or_eq_true, List.any_eq_true, List.any_eq_true]
      rcases hx with ⟨x, hx, hx2⟩ | ⟨x, hx, hx2⟩
      · refine .inl ⟨x, hx, ?_⟩
        rw [Bool.or_eq_true, List.any_eq_true, Bool.and_eq_true]
        rcases hx2 with hx2 | ⟨h1, h2⟩
        · exact .inl ⟨x, hx2, by simp⟩
        · exact .inr ⟨Nat.ble_eq_true_of_le h1, by simpa [Nat.blt_eq] using h2⟩
      · refine .inr ⟨x, hx, ?_⟩
        rw [List.any_eq_true]
        exact ⟨x, hx2, by simp⟩
    rw [this] at k; cases k
  · exact k
end Go.Proofs.Ytfnlcnnoedmfiaa.K
/- Onto a row that is not owned: what comes is a row. -/
namespace Go.Proofs.Ytfnlcnnoedmfiaa.K
open Go Go.RowKit
variable {P : Program}
end Go.Proofs.Ytfnlcnnoedmfiaa.K
