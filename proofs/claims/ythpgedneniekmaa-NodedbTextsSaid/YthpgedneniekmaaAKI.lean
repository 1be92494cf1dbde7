import Derived.Test.YthpgedneniekmaaAKH
/- New rows: made with room, made of parts as one's own; pointers against nil. -/
namespace Go.Proofs.Ythpgedneniekmaa.K
open Go Go.RowKit
set_option linter.unusedVariables false
set_option linter.unusedSimpArgs false
set_option linter.unusedSectionVars false
variable {P : Program}
theorem run_append_zeros (w : World) (t u ty e : TypeId) (kd : IntKind) (i : TypeInfo) (z : Value) (ht : P.underlying t = some (.slice e)) (hu : P.underlying u = some (.int kd)) (hi : P.info? e = some i) (hz : i.zero = some z) (h0 : 0 < i.size)
    (base : Option Addr) (n : Nat) (hn : 0 < n) (h63 : n ≤ 9223372036854775807) (hb : n * i.bytes ≤ 281474976710656) (hfit : Builtin.nextslicecap n 0 * i.bytes ≤ 281474976710656) :
    (Builtin.append_ #[t, u] ty #[.slice base 0 0, .int .i64 (n : Int)]).run P w = .ok (.slice (some ⟨w.heap.size, 0, none⟩) n (grownCap w n 0 e))
        (w.drew.alloc (.cells ⟨(Builtin.zeroCells z.cells n).toList ++ (Builtin.zeroCells z.cells (grownCap w n 0 e - n)).toList⟩ e)) := by
  have h1 : ¬ (n = 0) := by omega
  have h8 : ¬ (n * i.size = 0) := by have := Nat.mul_pos hn h0; omega
  have hw : IntKind.i64.wrap (n : Int) = (n : Int) := wrap_i64 ⟨by omega, by omega⟩
  have h2 : ¬ ((n : Int) < 0) := by omega
  have h3 : ¬ (281474976710656 < (n : Int) * (i.bytes : Int)) := by
    have : (n : Int) * (i.bytes : Int) = ((n * i.bytes : Nat) : Int) := by push_cast; rfl
    rw [this]; omega
  have h4 : ¬ (9223372036854775807 < (n : Int)) := by omega
  have h5 : ¬ (281474976710656 < Builtin.nextslicecap n 0 * i.bytes) := by omega
  have h6 : ¬ (n = 0 ∨ i.size = 0) := by omega
  have h7 : (Builtin.firstCells i.size 0 (.slice base 0 0)).run P w.drew = .ok #[] w.drew := by
    cases base with
    | none => simp [Builtin.firstCells]
    | some ad => simp [Builtin.firstCells, loadCells, loadCellsFrom]
  simp [Builtin.append_, run_underlying ht, run_underlying hu, sizeOf, typeInfo, zeroValue, hi, hz, asInt, asIntOf, hw, h1, h2, h3, h4, h5, h8, h7, Question.forced, newRow, grownCap]
  congr 2
  apply Array.ext'
  simp
section
variable {o : Oper} {S : Nat → PV} {H : HM} {nx : Nat} {df : List (Nat × List PV)} {frz : List Nat} {k : PV → HM → Nat → List Nat → List Nat → Prop}
theorem so_appZ {t u : TypeId} {kd : IntKind} {x y : Operand} {sz by' : Nat} {n : Int} (ho : o.op = .call { callee := .builtin .append, args := #[x, y], argTypes := #[t, u] }) (ht : rowA P t = some (sz, by')) (hu : P.underlying u = some (.int kd))
    (hx : evP S x = .full []) (hy : evP S y = .d (.val (.int .i64 n))) (h : 0 < n ∧ n.toNat * by' ≤ 140737488355328) (hb : 0 < by') (hk : k (.room nx n.toNat) (putH H nx (some (.spare sz 0))) (nx + 1) [] []) : stepO P o ⟨S, H, nx, df⟩ k := by
  intro hn
  refine ⟨_, _, _, _, _, ⟨Nat.le_succ _, fun i _ hi => ?_, fun i hi => ?_, by simp, by simp, ?_⟩, hk⟩
  · have : i ≠ nx := Nat.ne_of_lt hi
    simp [putH, this]
  · have hi : nx + 1 ≤ i := hi
    have : i ≠ nx := by omega
    simp only [putH, this, if_false]; exact hn i (show nx ≤ i by omega)
  intro m ρ a w K Q V hf hxs hK
  have h1 := hxs x (by simp [ho, Op.operands, Call.operands])
  have h2 := hxs y (by simp [ho, Op.operands, Call.operands])
  rw [show evP ({ S := S, H := H, nx := nx, df := df } : St).S x = _ from hx] at h1
  rw [show evP ({ S := S, H := H, nx := nx, df := df } : St).S y = _ from hy] at h2
  simp only [Rep, RepD, List.length_nil] at h1 h2
  obtain ⟨ad, ev, _⟩ := h1
  obtain ⟨e, i, z, hte, hi, hz, hzs, h0, hsz, hby⟩ := rowA_spec ht
  subst hsz; subst hby
  have en : n = (n.toNat : Int) := by omega
  generalize hN : n.toNat = N at *
  have hN0 : 0 < N := by omega
  have hNb : N * 1 ≤ N * i.bytes := Nat.mul_le_mul_left _ hb
  have hfit : Builtin.nextslicecap N 0 * i.bytes ≤ 281474976710656 := growslice_fits (by omega) h.2
  have hrun := run_append_zeros (P := P) w t u o.type e kd i z hte hu hi hz h0 ad N hN0 (by omega) (by omega) hfit
  rw [← en, ← h2, ← ev] at hrun
  have hgo := hrun
  unfold Oper.wp
  rw [run_call_append ho hgo, Oper.upon_value]
  have hge := grownCap_ge w N 0 e
  have hcm := grownCap_le_maxLen w N 0 e (by rw [maxLen_val]; omega)
  have hD := grownDone (s := ⟨S, H, nx, df⟩) (w := w) [] V hf (vals := []) (rest := (Builtin.zeroCells z.cells N).toList ++ (Builtin.zeroCells z.cells (grownCap w N 0 e - N)).toList) (sz := i.size) (n := 0) (cap := grownCap w N 0 e)
    (by simp) (by simp) (by
      simp only [List.length_nil, List.length_append, Array.length_toList, size_zeroCells, hzs, Nat.zero_add]
      rw [← Nat.add_mul]; congr 1; omega) (Nat.zero_le _) hcm e H (fun i => .inr rfl)
  refine hK _ _ _ _ hD ?_
  simp only [Rep]
  exact .inl ⟨w.heap.size, grownCap w N 0 e, by simp, rfl, hge⟩
theorem so_room0 {t : TypeId} {sz by' : Nat} {ag : Bool} {x hi : Operand} {id n : Nat} (ho : o.op = .slice t x none (some hi) none) (hs : slcA P t = some (sz, by', ag)) (hx : evP S x = .room id n) (hh : evP S hi = .d (.val (.int .i64 0))) (hk : k (.own id []) H nx [] []) : stepO P o ⟨S, H, nx, df⟩ k := by
  refine so_pure (v := .own id []) ?_ Imp.refl hk
  refine PureRun.still fun m ρ a w hm hx' => ?_
  have e1 := hx' x (by simp [ho, Op.operands])
  have e3 : ∀ y, some hi = some y → Rep m ρ (evP S y) (a.eval y) := fun y hy => hx' y (by simp [ho, hy, Op.operands])
  obtain ⟨dst, op', type, pos, after, guard⟩ := o
  simp only at ho
  subst ho
  rw [hx] at e1
  simp only [Rep] at e1
  rcases e1 with ⟨b, c, hr, ev, hc⟩ | ⟨rfl, ad, ev⟩
  · obtain ⟨et, inf, hu, ht, hi', _, _⟩ := slcA_spec hs
    have hsz := (tyA_spec ht w).2
    have hb := run_bounds (P := P) (w := w) (S := S) (isSl := true) (len := n) (cap := c) (lo := none) (hi := some hi) (l := 0) (h := 0) rfl (by simp [bnd, hh]) (by simp) e3 (by omega) (by omega) (by omega) hc
    refine ⟨.slice (some (if c = 0 then ⟨b, 0, none⟩ else (⟨b, 0, none⟩ : Addr).add (0 * sz))) 0 c, ?_, ?_⟩
    · have e : (if c = 0 then some (⟨b, 0, none⟩ : Addr) else some ((⟨b, 0, none⟩ : Addr).add 0)) = some ⟨b, 0, none⟩ := by split <;> simp [addr_add]
      have e' : (if c = 0 then (⟨b, 0, none⟩ : Addr) else (⟨b, 0, none⟩ : Addr).add 0) = ⟨b, 0, none⟩ := by split <;> simp [addr_add]
      simp only [Option.map_none, Option.map_some] at hb
      simp [execOp, Instr.sliceAt, run_underlying hu, Instr.slice, ev, hb, hsz, e, e', addr_add]
    · have e' : (if c = 0 then (⟨b, 0, none⟩ : Addr) else (⟨b, 0, none⟩ : Addr).add (0 * sz)) = ⟨b, 0, none⟩ := by split <;> simp [addr_add]
      rw [e']
      simp only [Rep]; exact .inl ⟨b, c, hr, rfl, Nat.zero_le _, by simp [RepE]⟩
  · obtain ⟨et, inf, hu, ht, hi', _, _⟩ := slcA_spec hs
    have hsz := (tyA_spec ht w).2
    have hb := run_bounds (P := P) (w := w) (S := S) (isSl := true) (len := 0) (cap := 0) (lo := none) (hi := some hi) (l := 0) (h := 0) rfl (by simp [bnd, hh]) (by simp) e3 (by omega) (by omega) (by omega) (Nat.le_refl _)
    simp only [Option.map_none, Option.map_some] at hb
    refine ⟨.slice ad 0 0, ?_, ?_⟩
    · simp [execOp, Instr.sliceAt, run_underlying hu, Instr.slice, ev, hb, hsz]
    · simp only [Rep]; exact .inr ⟨trivial, ad, rfl⟩
theorem sf_capF {t e : TypeId} {x : Operand} {l : List D} (ho : o.op = .call { callee := .builtin .cap, args := #[x], argTypes := #[t] }) (ht : P.underlying t = some (.slice e)) (hx : evP S x = .full l) (hk : k (.d (.val (.int .i64 (l.length : Int)))) H nx [] []) : stepO P o ⟨S, H, nx, df⟩ k := by
  refine so_pure (v := .d (.val (.int .i64 (l.length : Int)))) ?_ Imp.refl hk
  refine PureRun.still fun m ρ a w hm hx' => ?_
  have e1 := hx' x (by simp [ho, Op.operands, Call.operands])
  obtain ⟨dst, op', type, pos, after, guard⟩ := o
  simp only at ho
  subst ho
  rw [hx] at e1
  simp only [Rep] at e1
  obtain ⟨ad, ev, _⟩ := e1
  refine ⟨.int .i64 l.length, ?_, by simp [Rep, RepD]⟩
  simp [execOp, resolve, invoke, builtin, Builtin.cap_, run_underlying ht, ev, goInt]
theorem sf_vnil {t u e : TypeId} {x y : Operand} {id off : Nat} {op : BinOp} {b : Bool} (ho : o.op = .binOp op t x y u) (hop : (op = .eql ∧ b = false) ∨ (op = .neq ∧ b = true)) (ht : P.underlying t = some (.pointer e)) (hx : evP S x = .vptr id off) (hy : evP S y = .d (.val (.pointer none))) (hk : k (.d (.val (.bool b))) H nx [] []) : stepF P frz o ⟨S, H, nx, df⟩ k := by
  unfold stepF; rw [ho]
  rcases hop with ⟨rfl, rfl⟩ | ⟨rfl, rfl⟩
  · simp only [isEq, aggy, hx, hy, Bool.and_false, Bool.false_eq_true, if_false, binX, eqlX, ht]; exact ⟨trivial, hk⟩
  · simp only [isEq, aggy, hx, hy, Bool.and_false, Bool.false_eq_true, if_false, binX, eqlX, ht]; exact ⟨trivial, hk⟩
theorem v2s_pre {n : Nat} {c : List D} {a : Arr n UInt8} {off : Nat} (h : Pre (c.drop off) byteD a) : ((c.map PV.d).drop (off + (0 : Int).toNat)).take ((n : Int) - 0).toNat = (a.1.map byteD).map .d := by
  obtain ⟨r, e⟩ := h
  rw [show off + (0 : Int).toNat = off from rfl, show ((n : Int) - 0).toNat = n by omega, ← List.map_drop, e, List.map_append, List.take_left' (by simp [a.2])]
theorem v2s_len {n : Nat} {a : Arr n UInt8} : a.1.length = ((n : Int) - 0).toNat := by rw [a.2]; omega
theorem v2s_arr {n : Nat} {a : Arr n UInt8} {p q : Int} (h : 0 ≤ p ∧ p ≤ q ∧ q ≤ (n : Int)) : (((a.1.map byteD).map PV.d).drop (0 + p.toNat)).take (q - p).toNat = ((sub a.1 p q).map byteD).map .d := by
  unfold sub
  rw [Nat.zero_add, ← List.map_drop, ← List.map_drop, ← List.map_take, ← List.map_take]
theorem v2s_arrL {n : Nat} {a : Arr n UInt8} {p q : Int} (h : 0 ≤ p ∧ p ≤ q ∧ q ≤ (n : Int)) : (sub a.1 p q).length = (q - p).toNat := by
  unfold sub
  rw [List.length_take, List.length_drop, a.2]; omega
theorem spl_overS {n : Nat} {α : Type} {en : α → D} {c : List D} {a : Arr n α} {l : List α} {off : Nat} {c' : List PV} (h : Pre (c.drop off) en a) (hl : l.length ≤ n) (h2 : spl (c.map PV.d) off (((a.over l).1.map en).map PV.d) = c') : spl (c.map PV.d) (off + (0 : Int).toNat) ((l.map en).map PV.d) = c' := by
  rw [show off + (0 : Int).toNat = off from rfl, ← h2, Arr.over_le hl]
  obtain ⟨r, e⟩ := h
  unfold spl
  have e2 : (c.map PV.d).drop off = (a.1.map en).map PV.d ++ r.map PV.d := by rw [← List.map_drop, e, List.map_append]
  rw [← List.drop_drop, ← List.drop_drop, e2]
  congr 1
  simp only [List.length_map, List.length_append, List.length_drop, a.2, List.map_append, List.append_assoc]
  congr 1
  rw [List.drop_append_of_le_length (by simp [a.2, hl]), List.map_drop, List.map_drop]
  congr 1
  rw [show l.length + (n - l.length) = ((a.1.map en).map PV.d).length by simp [a.2]; omega, List.drop_left' rfl]
end
end Go.Proofs.Ythpgedneniekmaa.K
