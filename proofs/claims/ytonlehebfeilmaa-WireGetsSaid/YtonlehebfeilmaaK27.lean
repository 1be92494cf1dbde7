/- The bytes of a string as a row of one's own; what nobody writes any more. -/
import Derived.Test.YtonlehebfeilmaaK26
namespace Go.Proofs.Ytonlehebfeilmaa.K
open Go Go.RowKit

variable {P : Program} {N : Nat} {ops : Array Oper} {o : Oper} {r : List Oper} {s : St}

/-- The new row of an append that grew. -/
theorem grownDoneF {s : St} {m : Mem} {ρ : Ren} {w : World} (T : List Nat) (V : ValidOn (· ∈ T) m ρ w s.H) (hf : ∀ i, s.nx ≤ i → i < s.nx + 1 → ρ i = none) {vals rest : List Value} {sz n cap : Nat} (h1 : ∀ v ∈ vals, v.oneCell' = true) (hv : vals.length = n * sz)
    (hr : vals.length + rest.length = cap * sz) (hc : n ≤ cap) (hm : cap ≤ maxLen) (e : TypeId) (fr : Nat × Nat) (hfr : (vals ++ rest).length ≤ fr.1) (Hd : HM) (hd : ∀ i, Hd i = none ∨ Hd i = s.H i) :
    Done (· ∈ T) s.nx (s.nx + 1) m ρ w s.H (m.with w.heap.size vals) (fun i => if i = s.nx then some (w.heap.size, cap) else ρ i) (w.drew.alloc (.cells ⟨vals ++ rest⟩ e fr)) (fun i => if i = s.nx then some (.spare sz n) else Hd i) := by
  have hle : ρ.le (fun i => if i = s.nx then some (w.heap.size, cap) else ρ i) := by
    intro i x e
    have : i ≠ s.nx := by intro h; subst h; rw [hf _ (Nat.le_refl _) (by omega)] at e; cases e
    simp [this, e]
  have hml := Mem.le_with (vs := vals) (memNone V.mem)
  have hold : ∀ k, k < w.heap.size → (w.drew.alloc (.cells ⟨vals ++ rest⟩ e fr)).heap[k]? = w.heap[k]? := fun k hk => heap_alloc_old w.drew _ hk
  have hnew : (w.drew.alloc (.cells ⟨vals ++ rest⟩ e fr)).heap[w.heap.size]? = some (.cells ⟨vals ++ rest⟩ e fr) := heap_alloc_new w.drew _
  have hnm : ∀ b o v, (m.with w.heap.size vals) b o = some v → m b o = some v ∨ w.heap.size ≤ b := by
    intro b o v h
    unfold Mem.with at h
    split at h
    · exact .inr (by omega)
    · exact .inl h
  have hmem : MemOK (m.with w.heap.size vals) (w.drew.alloc (.cells ⟨vals ++ rest⟩ e fr)) := by
    refine V.mem.with (fun b ⟨_, _, h⟩ => hold b (V.mem.lt h)) (fun o v h => ?_) h1
    rw [cell_of_block hnew, List.getElem?_append_left (List.getElem?_eq_some_iff.1 h).1]
    exact h
  refine ⟨⟨hml, by simp, fun b hb _ => hold b hb, rfl, rfl, rfl, fun b o v h => (hnm b o v h).imp id .inr⟩, hle, fun i => ?_, ⟨hmem, ?_, ?_⟩, ?_⟩
  · by_cases h : i = s.nx
    · exact .inr ⟨by omega, by omega⟩
    · simp [h]
  · intro i o hi hH
    by_cases h : i = s.nx
    · subst h
      simp only [if_true, Option.some.injEq] at hH
      subst hH
      refine .inr ⟨w.heap.size, cap, _, e, fr, by simp, hnew, by simp; omega, hc, hm, by simp only [List.size_toArray] at hfr ⊢; omega, fun o ho => ?_⟩
      simp only [Mem.with, if_true]
      exact List.getElem?_eq_none (by omega)
    · simp only [h, if_false] at hH
      have hH' : s.H i = some o := by
        rcases hd i with h' | h'
        · rw [h'] at hH; cases hH
        · rw [← h']; exact hH
      have hE := V.entry i o (hi.elim id (by omega)) hH'
      refine hE.move hml hle (by simp [h]) (fun b c hr => hold b (hE.ren hr)) (fun b c hr o' v h' => ?_)
      rcases hnm b o' v h' with h'' | h''
      · exact h''
      · have := hE.ren hr; omega
  · intro i j b c c' hi hj hHi hHj hri hrj
    have old : ∀ k, (k ∈ T ∨ (s.nx ≤ k ∧ k < s.nx + 1)) → k ≠ s.nx → (if k = s.nx then some (HO.spare sz n) else Hd k) ≠ none → ∀ b c, (if k = s.nx then some (w.heap.size, cap) else ρ k) = some (b, c) → k ∈ T ∧ s.H k ≠ none ∧ ρ k = some (b, c) ∧ b < w.heap.size := by
      intro k hk hne hl b c hr
      simp only [hne, if_false] at hl hr
      have hTk : k ∈ T := hk.elim id (by omega)
      have hl' : s.H k ≠ none := by
        rcases hd k with h' | h'
        · exact absurd h' hl
        · rw [← h']; exact hl
      refine ⟨hTk, hl', hr, ?_⟩
      cases e : s.H k with
      | none => exact absurd e hl'
      | some o => exact (V.entry k o hTk e).ren hr
    by_cases h : i = s.nx <;> by_cases h' : j = s.nx
    · rw [h, h']
    · subst h
      have := old j hj h' hHj b c' hrj
      simp at hri
      omega
    · subst h'
      have := old i hi h hHi b c hri
      simp at hrj
      omega
    · have e1 := old i hi h hHi b c hri
      have e2 := old j hj h' hHj b c' hrj
      exact V.apart i j b c c' e1.1 e2.1 e1.2.1 e2.2.1 e1.2.2.1 e2.2.2.1
  · rintro b ⟨i, c, hi, hl, hr⟩
    by_cases h : i = s.nx
    · subst h
      simp at hr
      exact .inr (by omega)
    · simp only [h, if_false] at hl hr
      have hl' : s.H i ≠ none := by
        rcases hd i with h' | h'
        · exact absurd h' hl
        · rw [← h']; exact hl
      exact .inl ⟨i, c, hi.elim id (by omega), hl', hr⟩


theorem strRow_sem {t u e : TypeId} {x : Operand} {l : List UInt8} (ho : o.op = .convert t u x) (hs : P.underlying t = some .string) (hd : P.underlying u = some (.slice e)) (he : P.underlying e = some (.int .u8))
    (hx : evP s.S x = .d (.val (.string ⟨l.toArray⟩))) (hn : ∀ i, s.nx ≤ i → s.H i = none) (hl : l.length ≤ maxLen) :
    OpSem P o s (.own s.nx (l.map byteD)) (fun i => if i = s.nx then some (.spare 1 l.length) else s.H i) (s.nx + 1) [] [] := by
  refine ⟨by omega, fun i _ hi => ?_, fun i hi => ?_, by simp, by simp, ?_⟩
  · have : i ≠ s.nx := by omega
    simp [this]
  · have : i ≠ s.nx := by omega
    simp [this, hn i (by omega)]
  intro m ρ a w K Q V hf hxs hK
  have h1 := hxs x (by simp [ho, Op.operands])
  rw [hx] at h1
  simp only [Rep, RepD] at h1
  have hz : (ByteArray.mk l.toArray).size = l.length := str_size l
  have hrun := run_bytes_of_string (P := P) w t u e ⟨l.toArray⟩ hs hd he
  have hge := grownCap_ge w (ByteArray.mk l.toArray).size 0 e
  have hcm := grownCap_le_maxLen w (ByteArray.mk l.toArray).size 0 e (by rw [hz]; exact hl)
  have hb : bytesRow ⟨l.toArray⟩ (grownCap w (ByteArray.mk l.toArray).size 0 e) = ⟨(l.map fun b => Value.int .u8 b.toNat) ++ List.replicate (grownCap w (ByteArray.mk l.toArray).size 0 e - l.length) (.int .u8 0)⟩ := by
    apply Array.ext'
    simp [bytesRow, hz]
  rw [hb] at hrun
  generalize grownCap w (ByteArray.mk l.toArray).size 0 e = cap at *
  rw [hz] at hge hrun
  have hD := grownDoneF (s := s) (w := w) [] V hf (vals := l.map fun b => Value.int .u8 b.toNat) (rest := List.replicate (cap - l.length) (.int .u8 0)) (sz := 1) (n := l.length) (cap := cap)
    (fun v hv => by obtain ⟨b, _, rfl⟩ := List.mem_map.1 hv; rfl) (by simp) (by simp; omega) hge hcm e (((l.map fun b => Value.int .u8 b.toNat) ++ List.replicate (cap - l.length) (Value.int .u8 0)).length, ((l.map fun b => Value.int .u8 b.toNat) ++ List.replicate (cap - l.length) (Value.int .u8 0)).length + 1) (Nat.le_refl _) s.H (fun i => .inr rfl)
  unfold Oper.wp
  have hexec : (execOp a.eval o).run P w = .ok (.value (.slice (some ⟨w.heap.size, 0, none⟩) l.length cap)) (w.drew.alloc (.cells ⟨(l.map fun b => Value.int .u8 b.toNat) ++ List.replicate (cap - l.length) (.int .u8 0)⟩ e (((l.map fun b => Value.int .u8 b.toNat) ++ List.replicate (cap - l.length) (Value.int .u8 0)).length, ((l.map fun b => Value.int .u8 b.toNat) ++ List.replicate (cap - l.length) (Value.int .u8 0)).length + 1))) := by
    obtain ⟨dst, op', type, pos, after, guard⟩ := o
    simp only at ho
    subst ho
    simp only [execOp, h1, Sem.run_bind, hrun, Result.andThen_ok]
    rfl
  rw [hexec, Oper.upon_value]
  refine hK _ _ _ _ hD ?_
  simp only [Rep]
  refine .inl ⟨w.heap.size, cap, by simp, by simp, by simpa using hge, ?_⟩
  refine repE_of_vals (vs := l.map fun b => Value.int .u8 b.toNat) ?_ (fun j v hj => by simp [Mem.with, hj])
  have : ∀ bs : List UInt8, RepL (m.with w.heap.size (l.map fun b => Value.int .u8 b.toNat)) ((bs.map byteD).flatMap D.cells) (bs.map fun b => .int .u8 b.toNat) := by
    intro bs
    induction bs with
    | nil => simp [RepL]
    | cons b r ih => simp only [List.map_cons, List.flatMap_cons, byteD, cells_val, List.singleton_append, RepL, RepD]; exact ⟨_, _, rfl, rfl, by simpa [byteD] using ih⟩
  exact this l

theorem XK.strRow {Q : PX → St → Prop} {t u e : TypeId} {x : Operand} {l : List UInt8} (hg : o.guard = none) (ho : o.op = .convert t u x) (hs : P.underlying t = some .string) (hd : P.underlying u = some (.slice e)) (he : P.underlying e = some (.int .u8))
    (hx : evP s.S x = .d (.val (.string ⟨l.toArray⟩))) (hl : l.length ≤ maxLen) (h : XK P ops r ⟨putS s.S o.dst (.own s.nx (l.map byteD)), putH s.H s.nx (some (.spare 1 l.length)), s.nx + 1, s.df⟩ Q) : XK P ops (o :: r) s Q := by
  intro hn
  have hsem := strRow_sem (P := P) ho hs hd he hx hn hl
  exact .step (R := ⟨[], [], s.nx, s.nx + 1⟩) (.run hg hsem) (h hsem.nil)
theorem RK.strRow {acc : List Rec} {K : St → List Rec → Prop} {t u e : TypeId} {x : Operand} {l : List UInt8} (hg : o.guard = none) (ho : o.op = .convert t u x) (hs : P.underlying t = some .string) (hd : P.underlying u = some (.slice e)) (he : P.underlying e = some (.int .u8))
    (hx : evP s.S x = .d (.val (.string ⟨l.toArray⟩))) (hl : l.length ≤ maxLen) (h : RK P ops r ⟨putS s.S o.dst (.own s.nx (l.map byteD)), putH s.H s.nx (some (.spare 1 l.length)), s.nx + 1, s.df⟩ (⟨[], [], s.nx, s.nx + 1⟩ :: acc) K) : RK P ops (o :: r) s acc K := by
  intro hn
  have hsem := strRow_sem (P := P) ho hs hd he hx hn hl
  obtain ⟨s', L, hr, hK⟩ := h hsem.nil
  exact ⟨s', _, .cons (.run hg hsem) hr, by simpa using hK⟩

/-- What nobody writes any more is data: the variable id, all of whose cells are data. -/
theorem PW.freeze {c : Code} {Q : PX → St → Prop} (id : Nat) (t : Nat) (l : List PV) (ds : List D) (hH : s.H id = some (.var l)) (hd : PV.toDs l = some ds) (ht : s.S t = .vptr id 0)
    (h : PW P N c ⟨putS s.S (some t) (.d (.cptr ds)), putH s.H id none, s.nx, s.df⟩ Q) : PW P N c s Q := by
  intro m ρ a w hI
  obtain ⟨b, cc, vs, ty, e1, e2, e3, e5, e4⟩ := hI.valid.entry id _ trivial hH
  have hm1 : m.le (m.with b vs) := fun x y v e => by
    unfold Mem.with
    split
    · rename_i hx; rw [hx, e4] at e; cases e
    · exact e
  have hb := (Array.getElem?_eq_some_iff.1 e2).1
  have hnew : ∀ x y v, (m.with b vs) x y = some v → m x y = some v ∨ x = b := by
    intro x y v e
    unfold Mem.with at e
    split at e
    · rename_i hx; exact .inr hx
    · exact .inl e
  have hmem : MemOK (m.with b vs) w := by
    intro x y v e
    unfold Mem.with at e
    split at e
    · rename_i hx
      subst hx
      refine ⟨?_, e5 v (List.mem_of_getElem? e)⟩
      rw [cell_of_block e2]
      simpa using e
    · exact hI.valid.mem x y v e
  have hl := RepP.toDs l ds vs hd e3
  have repC : ∀ (l : List D) (us : List Value) (o : Nat), RepL m l us → (∀ j v, us[j]? = some v → (m.with b vs) b (o + j) = some v) → RepC (m.with b vs) b l o := by
    intro l
    induction l with
    | nil => intro us o _ _; simp [RepC]
    | cons x r ih =>
      intro us o hr hc
      simp only [RepL] at hr
      obtain ⟨v, vr, rfl, h1, h2⟩ := hr
      simp only [RepC]
      refine ⟨⟨v, by simpa using hc 0 v rfl, h1.mono hm1⟩, ih vr (o + 1) h2 fun j u hj => ?_⟩
      have := hc (j + 1) u (by simpa using hj)
      rwa [show o + 1 + j = o + (j + 1) by omega]
  have hI' : Inv N ⟨putS s.S (some t) (.d (.cptr ds)), putH s.H id none, s.nx, s.df⟩ (m.with b vs) ρ a w := by
    refine ⟨hI.size, hI.defers.mono hm1 (Ren.le_refl _), fun i => ?_, ⟨hmem, fun i o _ hH' => ?_, fun i j b1 c1 c2 _ _ hi hj hri hrj => ?_⟩, fun i hi => ?_, hI.rnil⟩
    · show Rep _ _ (putS s.S (some t) (.d (.cptr ds)) i) _
      rw [putS_at]
      split
      · rename_i e
        subst e
        have := hI.slots i
        rw [ht] at this
        simp only [Rep] at this
        obtain ⟨b', c', hr, ev⟩ := this
        rw [e1] at hr; cases hr
        simp only [Rep, RepD]
        exact ⟨b, 0, ev, repC ds vs 0 hl fun j v hj => by simp [Mem.with, hj]⟩
      · exact (hI.slots i).mono hm1 (Ren.le_refl _)
    · by_cases e : i = id
      · subst e; simp [putH] at hH'
      · simp only [putH, e, if_false] at hH'
        have hE := hI.valid.entry i o trivial hH'
        refine hE.move hm1 (Ren.le_refl _) rfl (fun _ _ _ => rfl) (fun b' c' hr o' v e' => ?_)
        rcases hnew b' o' v e' with h1 | h1
        · exact h1
        · subst h1
          exact absurd (hI.valid.apart i id b' c' cc trivial trivial (by rw [hH']; simp) (by rw [hH]; simp) hr e1) e
    · refine hI.valid.apart i j b1 c1 c2 trivial trivial ?_ ?_ hri hrj
      · intro e; apply hi; simp only [putH]; split
        · rfl
        · exact e
      · intro e; apply hj; simp only [putH]; split
        · rfl
        · exact e
    · simp only [putH]
      split
      · rfl
      · exact hI.hnil i hi
  refine wp_mono (h _ ρ a w hI') ?_
  rintro e a' w' ⟨px, s', m', ρ', hq, hr, hI2, hA⟩
  have blk : ∀ x, Blk ρ (putH s.H id none) (fun _ => True) x → Blk ρ s.H (fun _ => True) x := by
    rintro x ⟨i, c, _, hl, hri⟩
    refine ⟨i, c, trivial, ?_, hri⟩
    intro e
    apply hl
    simp only [putH]
    split
    · rfl
    · exact e
  have bid : Blk ρ s.H (fun _ => True) b := ⟨id, cc, trivial, by rw [hH]; simp, e1⟩
  refine ⟨px, s', m', ρ', hq, hr, hI2, ⟨⟨Mem.le_trans hm1 hA.ext.mem, hA.ext.size, fun x hx hn => hA.ext.block x hx (fun f => hn (blk x f)), hA.ext.os, hA.ext.tape, hA.ext.output, fun x y v e => ?_⟩, hA.ren, fun x hx => (hA.place x hx).imp (blk x) (fun h => h), hA.le, hA.old⟩⟩
  rcases hA.ext.new x y v e with h1 | h1 | h1
  · rcases hnew x y v h1 with h2 | h2
    · exact .inl h2
    · subst h2; exact .inr (.inl bid)
  · exact .inr (.inl (blk x h1))
  · exact .inr (.inr h1)
def notD : PV → Bool
  | .d _ => false
  | _ => true
/-- A slot is taken for the data that it holds. -/
theorem PW.toD {c : Code} {Q : PX → St → Prop} (t : Nat) (x : D) (_ : notD (s.S t) = true) (h : (s.S t).toD = some x) (k : PW P N c ⟨putS s.S (some t) (.d x), s.H, s.nx, s.df⟩ Q) : PW P N c s Q := by
  refine PW.weak (s' := ⟨putS s.S (some t) (.d x), s.H, s.nx, s.df⟩) (fun u m ρ v hr => ?_) rfl rfl rfl k
  show Rep m ρ (putS s.S (some t) (.d x) u) v
  rw [putS_at]
  split
  · rename_i e
    subst e
    simpa [Rep] using Rep.toD _ _ _ h hr
  · exact hr
/-! ### Arrays of bytes in variables -/
theorem getD_bV {l : List UInt8} {i : Nat} (h : i < l.length) : ((l.map byteD).map PV.d).getD i .junk = .d (.val (.int .u8 ((l.getD i 0).toNat : Int))) := by
  rw [List.getD_eq_getElem?_getD, List.getD_eq_getElem?_getD, List.getElem?_map, List.getElem?_map, List.getElem?_eq_getElem h]
  rfl
theorem spl_b {l : List UInt8} {i : Nat} {w : UInt8} (h : i < l.length) : spl ((l.map byteD).map PV.d) i [.d (.val (.int .u8 (w.toNat : Int)))] = ((l.set i w).map byteD).map PV.d := by
  rw [← byteD_app]
  unfold spl
  rw [List.map_set, List.map_set, List.set_eq_take_append_cons_drop]
  simp [h]
theorem map_take_b {l : List UInt8} {n : Nat} : (l.map byteD).take n = (l.take n).map byteD := List.map_take.symm
theorem map_drop_b {l : List UInt8} {n : Nat} : (l.map byteD).drop n = (l.drop n).map byteD := List.map_drop.symm
theorem wrap_ofNat (k : Nat) : IntKind.u8.wrap (k : Int) = ((UInt8.ofNat k).toNat : Int) := by
  rw [IntKind.wrap_u8, UInt8.toNat_ofNat']
  omega
theorem shr8_nat (k : Nat) : ((k : Nat) : Int).fdiv (2 ^ (min 8 64)) = ((k / 256 : Nat) : Int) := by
  rw [Int.fdiv_eq_ediv_of_nonneg _ (by decide)]
  show ((k : Nat) : Int) / 256 = _
  omega

/-- An array of n, filled up to i. -/
def fillF {α : Type} (f : Nat → α) (z : α) (n i : Nat) : List α := (List.range i).map f ++ List.replicate (n - i) z
theorem fillF_len {α : Type} {f : Nat → α} {z : α} {n i : Nat} (h : i ≤ n) : (fillF f z n i).length = n := by simp [fillF]; omega
theorem fillF_set {α : Type} {f : Nat → α} {z : α} {n i : Nat} (h : i < n) : (fillF f z n i).set i (f i) = fillF f z n (i + 1) := by
  rw [fillF, fillF, List.set_append_right _ _ (by simp)]
  simp only [List.length_map, List.length_range, Nat.sub_self, List.range_succ, List.map_append, List.map_cons, List.map_nil, List.append_assoc]
  congr 1
  rw [show n - i = (n - (i + 1)) + 1 by omega, List.replicate_succ]
  rfl
theorem fillF_zero {α : Type} {f : Nat → α} {z : α} {n : Nat} : fillF f z n 0 = List.replicate n z := by simp [fillF]
theorem fillF_full {α : Type} {f : Nat → α} {z : α} {n : Nat} : fillF f z n n = (List.range n).map f := by simp [fillF]
theorem fillF_take {α : Type} {f : Nat → α} {z : α} {n i : Nat} : (fillF f z n i).take i = (List.range i).map f := by simp [fillF]
theorem wrap64_byte (b : UInt8) : IntKind.u64.wrap (b.toNat : Int) = (b.toNat : Int) := wrap_u64 (by have := byte_lt b; omega)
theorem not_v (e : Wd) : 4294967295 - (e.toNat : Int) = ((~~~e).toNat : Int) := by
  rw [BitVec.toNat_not]
  have := e.isLt
  omega
theorem low2 (a b : Wd) : ((a.toNat : Int) + (b.toNat : Int)) % 4294967296 = ((a + b).toNat : Int) := by
  rw [BitVec.toNat_add]; omega
theorem low4 (a b c d : Wd) : ((a.toNat : Int) + (b.toNat : Int) + (c.toNat : Int) + (d.toNat : Int)) % 4294967296 = ((a + b + c + d).toNat : Int) := by
  simp only [BitVec.toNat_add]; omega
theorem low5 (a b c d e : Wd) : ((a.toNat : Int) + (b.toNat : Int) + (c.toNat : Int) + (d.toNat : Int) + (e.toNat : Int)) % 4294967296 = ((a + b + c + d + e).toNat : Int) := by
  simp only [BitVec.toNat_add]; omega
attribute [go_sem] wrap64_byte not_v low2 low4 low5 Option.isSome_some Option.isSome_none Int.sub_zero getD_bV spl_b
end Go.Proofs.Ytonlehebfeilmaa.K
