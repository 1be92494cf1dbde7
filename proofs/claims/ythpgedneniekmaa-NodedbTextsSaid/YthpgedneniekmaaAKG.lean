import Derived.Test.YthpgedneniekmaaAKF
/- Elements of arrays within variables; bytes copied; the last field. -/
namespace Go.Proofs.Ythpgedneniekmaa.K
open Go Go.RowKit
set_option linter.unusedVariables false
set_option linter.unusedSimpArgs false
set_option linter.unusedSectionVars false
variable {P : Program}
theorem FE.one {d off n : Nat} {t : TypeId} {a a' : List D} {b : Bool} (h : EqV P d t n a a' b) : FE P d off [(true, off, t)] a a' b := by
  have := FE.cons (off := off) (c := []) (c' := []) h (FE.nil (P := P) (d := d) (off := off + n))
  simpa using this
section
variable {n : Nat} {α : Type} {en : α → D}
def Arr.over (a : Arr n α) (l : List α) : Arr n α := ⟨(l ++ a.1.drop l.length).take n, by rw [List.length_take, List.length_append, List.length_drop, a.2]; omega⟩
theorem Arr.over_le {a : Arr n α} {l : List α} (h : l.length ≤ n) : (a.over l).1 = l ++ a.1.drop l.length := by
  unfold Arr.over
  exact List.take_of_length_le (by rw [List.length_append, List.length_drop, a.2]; omega)
end
section
variable {o : Oper} {S : Nat → PV} {H : HM} {nx : Nat} {df : List (Nat × List PV)} {k : PV → HM → Nat → List Nat → List Nat → Prop}
theorem so_copyB {t u : TypeId} {x y : Operand} {id off n by' : Nat} {ag : Bool} {l l' : List PV} {bs : List UInt8} (ho : o.op = .call { callee := .builtin .copy, args := #[x, y], argTypes := #[t, u] }) (ht : slcA P t = some (1, by', ag))
    (hx : evP S x = .vrow id off n) (hH : H id = some (.var l)) (hy : (evP S y).more = some (bs.map byteD)) (hl : bs.length ≤ n) (hf : off + n ≤ l.length) (hs : spl l off ((bs.map byteD).map .d) = l')
    (hk : k (.d (.val (.int .i64 (bs.length : Int)))) (putH H id (some (.var l'))) nx [id] [id]) : stepO P o ⟨S, H, nx, df⟩ k := by
  intro hnil
  subst hs
  have hid : id < nx := idLt (s := ⟨S, H, nx, df⟩) hnil hH
  refine ⟨_, _, _, _, _, ⟨Nat.le_refl _, fun i hi _ => by simp at hi; simp [putH, hi], fun i hi => by
    have : i ≠ id := by have : nx ≤ i := hi; omega
    simp [putH, this]; exact hnil i hi, by simp, by simpa using hid, ?_⟩, hk⟩
  intro m ρ a w K Q V hf' hxs hK
  have h1 := hxs x (by simp [ho, Op.operands, Call.operands])
  have h2 := hxs y (by simp [ho, Op.operands, Call.operands])
  rw [show evP ({ S := S, H := H, nx := nx, df := df } : St).S x = _ from hx] at h1
  simp only [Rep] at h1
  obtain ⟨e, inf, hu, het, hi, hsz, _⟩ := slcA_spec ht
  have hsize := (tyA_spec het w).2
  obtain ⟨g1, news, g2, g3, g4, g5⟩ := news_of (P := P) V.mem hy h2 (sz := 1) (by intro z hz; obtain ⟨b, _, rfl⟩ := List.mem_map.1 hz; rfl)
  simp only [List.length_map, Nat.mul_one] at g1 g2 g5
  rw [flatMap_byteD] at g3
  have hnews := repL_bytes g3
  have hRn : RepP m ρ ((bs.map byteD).map .d) news := repP_d g3
  have hrun0 : ∀ (base : Option Addr) (kk : Nat) (w' : World), a.eval x = .slice base n kk → (match base with | some ad => (storeCells ad news 0).run P w = .ok () w' | none => w' = w) →
      (execOp a.eval o).run P w = .ok (.value (.int .i64 (bs.length : Int))) w' := by
    intro base kk w' ev hst
    have hcopy : (Builtin.copy_ #[t, u] o.type #[a.eval x, a.eval y]).run P w = .ok (.int .i64 (bs.length : Int)) w' := by
      have hmin : Nat.min bs.length n = bs.length := Nat.min_eq_left hl
      rw [ev]
      cases base with
      | none => subst hst; simp [Builtin.copy_, run_underlying hu, g1, hmin, hsize, g5 _ rfl, goInt]
      | some ad => simp [Builtin.copy_, run_underlying hu, g1, hmin, hsize, g5 _ rfl, goInt, hst]
    obtain ⟨dst, op', type, pos, after, guard⟩ := o
    simp only at ho hcopy
    subst ho
    simp [execOp, resolve, invoke, builtin, hcopy]
  rcases h1 with ⟨b, c, kk, hr, ev, _⟩ | ⟨h0, ad, kk, ev⟩
  · rcases V.entry id _ (by simp) hH with ⟨_, hr'⟩ | ⟨b', c', vs, tail, tb, hr', hb, hrl, hone, hno⟩
    · rw [hr] at hr'; cases hr'
    rw [hr] at hr'; cases hr'
    have hvl := repP_len hrl
    have hst := run_storeCells_at P b off tb news 0 ⟨vs ++ tail⟩ w hb (by simp; omega) g4
    simp only [Nat.add_zero] at hst
    let w' := w.setRow b ((vs ++ tail).take off ++ news ++ (vs ++ tail).drop (off + news.length)).toArray
    unfold Oper.wp
    rw [hrun0 _ _ w' ev hst, Oper.upon_value]
    have hother : ∀ k, k ≠ b → w'.heap[k]? = w.heap[k]? := fun k hk => setRow_other w b k _ hk
    have hblk : w'.heap[b]? = some (.cells ⟨spl vs off news ++ tail⟩ tb (0, 0)) := by
      have := setRow_heap w b ⟨vs ++ tail⟩ ((vs ++ tail).take off ++ news ++ (vs ++ tail).drop (off + news.length)).toArray tb (0, 0) hb
      have e1 : (vs ++ tail).take off = vs.take off := List.take_append_of_le_length (by omega)
      have e2 : (vs ++ tail).drop (off + news.length) = vs.drop (off + news.length) ++ tail := List.drop_append_of_le_length (by omega)
      simp only [w']
      rw [e1, e2] at this ⊢
      simpa [spl, List.append_assoc] using this
    have hsize' : w'.heap.size = w.heap.size := by simp [w', World.setRow]
    have hmem : MemOK m w' := V.mem.step fun k ⟨o', v, e⟩ => hother k (fun hk => by subst hk; rw [hno o'] at e; cases e)
    refine hK _ m ρ w' ⟨⟨Mem.le_refl _, by omega, fun k hk hnb => hother k (fun e => hnb (by subst e; exact ⟨id, c, by simp, by rw [show ({ S := S, H := H, nx := nx, df := df } : St).H id = _ from hH]; simp, hr⟩)), rfl, rfl, rfl, fun _ _ _ e => .inl e⟩, Ren.le_refl _, fun i => .inl rfl, ⟨hmem, ?_, ?_⟩, ?_⟩ (by simp [Rep, RepD])
    · intro i ob hi hHi
      have hi' : i = id := by simpa using hi.elim (fun h => h) (by omega)
      subst hi'
      simp only [putH, if_true, Option.some.injEq] at hHi
      subst hHi
      refine .inr ⟨b, c, _, tail, tb, hr, hblk, repP_spl off hrl hRn, ?_, hno⟩
      intro u hu
      unfold spl at hu
      simp only [List.mem_append] at hu
      rcases hu with hu | hu | hu
      · exact hone u (List.mem_of_mem_take hu)
      · exact g4 u hu
      · exact hone u (List.mem_of_mem_drop hu)
    · intro i j b1 c1' c2' hi hj _ _ _ _
      have hi' : i = id := by simpa using hi.elim (fun h => h) (by omega)
      have hj' : j = id := by simpa using hj.elim (fun h => h) (by omega)
      rw [hi', hj']
    · rintro k ⟨i, c1', hi, _, hri⟩
      have hi' : i = id := by simpa using hi.elim (fun h => h) (by omega)
      subst hi'
      exact .inl ⟨i, c1', by simp, by rw [show ({ S := S, H := H, nx := nx, df := df } : St).H i = _ from hH]; simp, hri⟩
  · subst h0
    have hb0 : bs = [] := List.eq_nil_of_length_eq_zero (by omega)
    subst hb0
    have hn0 : news = [] := List.eq_nil_of_length_eq_zero (by simpa using g2)
    subst hn0
    unfold Oper.wp
    rw [hrun0 ad kk w ev (by cases ad <;> simp [storeCells]), Oper.upon_value]
    have hspl : spl l off (([].map byteD).map .d) = l := by unfold spl; simp
    rw [hspl] at hK
    have hH' : putH H id (some (.var l)) = H := by
      funext i; simp only [putH]; split
      · rename_i e; rw [e, hH]
      · rfl
    rw [hH'] at hK
    exact hK _ m ρ w (Done.same V) (by simp [Rep, RepD])
end
end Go.Proofs.Ythpgedneniekmaa.K
