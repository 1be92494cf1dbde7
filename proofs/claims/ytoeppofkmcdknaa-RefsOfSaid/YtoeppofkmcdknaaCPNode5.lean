import Derived.Test.YtoeppofkmcdknaaCPNode4
/- Nodes: the reference reads the same. -/
namespace Go.Proofs.Ytoeppofkmcdknaa.K
open Go
set_option linter.unusedVariables false
set_option linter.unusedSimpArgs false
set_option linter.unusedSectionVars false
theorem item_eta (x : Item) : x = ⟨x.fList, x.fS, x.fL⟩ := by cases x; rfl
theorem fL_eq {l : List Item} {x : Item} (h : (⟨true, [], l⟩ : Item) = x) : l = x.fL := by subst h; rfl
def bigI (y : Item) : Bool := y.fList && decide (31 < (ienc y).length)
theorem kid_ok {n : Nat} {y : Item} {self : List UInt8 → Option Bool} {R : List UInt8 → Bool} (h : RT n y) (hl : (ienc y).length ≤ 2 ^ 32) (hself : self (refOf y) = some (R (refOf y))) :
    gs_ref06_kid self y = some (if bigI y = true then ([], false) else (refOf y, R (refOf y))) := by
  refine theC_eq ?_
  have hJ : ∀ k, self k = some (R k) → Comes (step_ref06_kid self y) (.J1 k) (k, R k) := by
    intro k hk
    refine Comes.stop ?_
    simp only [step_ref06_kid]
    rw [hk]; rfl
  cases hy : y.fList with
  | false =>
    have e : refOf y = y.fS := by unfold refOf; rw [if_neg (by rw [hy]; simp)]
    rw [if_neg (by unfold bigI; rw [hy]; simp)]
    refine Comes.next ?_ (hJ _ hself)
    simp only [step_ref06_kid]
    rw [hy, cond_false, e]
  | true =>
    have e : refOf y = ienc y := by unfold refOf; rw [if_pos hy]
    by_cases hb : 31 < (ienc y).length
    · rw [if_pos (by unfold bigI; rw [hy, decide_eq_true hb]; rfl)]
      refine Comes.stop ?_
      simp only [step_ref06_kid]
      rw [hy, cond_true, RPut_ok h hl, Option.bind_some, decide_eq_true (by omega)]
      rfl
    · rw [if_neg (by unfold bigI; rw [hy, decide_eq_false hb]; simp)]
      refine Comes.next ?_ (hJ _ hself)
      simp only [step_ref06_kid]
      rw [hy, cond_true, RPut_ok h hl, Option.bind_some, decide_eq_false (by omega), cond_false, e]
theorem big_not {y : Item} (hb : bigI y = true) (hg : good (refOf y)) : itemR (refOf y) ≠ y := by
  unfold bigI at hb
  rw [Bool.and_eq_true, decide_eq_true_eq] at hb
  have e : refOf y = ienc y := by unfold refOf; rw [if_pos hb.1]
  rw [e] at hg ⊢
  have h32 : (ienc y).length = 32 := by
    rcases hg with h | h | ⟨h, _⟩
    · exact absurd h (ienc_ne y)
    · exact h
    · omega
  intro h
  have : itemR (ienc y) = txt (ienc y) := if_pos (.inr h32)
  rw [this] at h
  rw [← h] at hb
  exact absurd hb.1 (by simp [txt])
section
variable {x : Item} {s : List UInt8} (hx : RT 65 x) (he : ienc x = s) (hl : s.length ≤ 1500) {self : List UInt8 → Option Bool} {R : List UInt8 → Bool}
  (hself : ∀ k : List UInt8, k.length < s.length → self k = some (R k)) (hgood : ∀ k : List UInt8, k.length < s.length → R k = true → good k)
include hx he hl hself hgood
theorem itemN_eq (h : okG R s x = true) : itemN (nodeOf x) = x := by
  obtain ⟨h1, h2⟩ := okG_iff.1 h
  obtain ⟨k1, k2, k3⟩ := node_small hx he
  obtain ⟨c1, c2, c3⟩ := chk_parts h1
  have hN := itemN_rt (nodeOf x) (fun k hk => hgood k (k1 k hk) (c2 k hk)) (okP_ok c1).2 (by omega)
  exact ienc_inj hN.1 hx (by omega) (by omega) (by omega) (h2.trans he.symm)
theorem okG_kids (h : okG R s x = true) (h17 : x.fL.length = 17) (i : Nat) (hi : i < 16) : bigI (idx x.fL (i : Int)) = false ∧ R (refOf (idx x.fL (i : Int))) = true := by
  have e : nodeOf x = ⟨3, [], [], putK x.fL 16⟩ := by unfold nodeOf; rw [if_neg (by omega), if_pos h17]
  have hN := itemN_eq hx he hl hself hgood h
  obtain ⟨h1, h2⟩ := okG_iff.1 h
  obtain ⟨c1, c2, c3⟩ := chk_parts h1
  rw [e] at c2 hN
  have hk : idx (putK x.fL 16).1 (i : Int) = refOf (idx x.fL (i : Int)) := by
    rw [putK_all _ (by omega), idx_get _ (by rw [List.length_map, List.length_take]; omega), List.getElem_map, List.getElem_take, idx_get x.fL (by omega)]
  have hR : R (refOf (idx x.fL (i : Int))) = true := by
    rw [← hk]; exact c2 _ (idx_mem _ (by rw [(putK x.fL 16).2]; omega))
  refine ⟨?_, hR⟩
  cases hb : bigI (idx x.fL (i : Int)) with
  | false => rfl
  | true =>
    have hg := hgood _ (it_kid hx he (idx_mem x.fL (i := i) (by omega))).2.2.1 hR
    have hL : (putK x.fL 16).1.map itemR ++ [txt []] = x.fL := by
      have : itemN (⟨3, [], [], putK x.fL 16⟩ : Node) = ⟨true, [], (putK x.fL 16).1.map itemR ++ [txt []]⟩ := by
        unfold itemN
        rw [if_neg (by show ¬ ((3 : Int) = 1); decide), if_neg (by show ¬ ((3 : Int) = 2); decide)]
      rw [this] at hN
      exact fL_eq hN
    refine absurd ?_ (big_not hb hg)
    have hlen : i < (putK x.fL 16).1.length := by rw [(putK x.fL 16).2]; omega
    conv => rhs; rw [← hL]
    rw [idx_get ((putK x.fL 16).1.map itemR ++ [txt []]) (by simp; omega), List.getElem_append_left (by rw [List.length_map]; exact hlen), List.getElem_map, ← idx_get _ hlen, hk]
theorem fin_ok : ((gs_ref06_May self (nodeOf x)).bind fun x_30 => ((bif (x_30 == true) then g_ref06_Put (nodeOf x) else some default).bind fun x_32 => some (x_30 && (x_32 == s)))) = some (okG R s x) := by
  obtain ⟨k1, k2, k3⟩ := node_small hx he
  rw [May_ok self R (nodeOf x) (fun k hk => hself k (k1 k hk)) (by omega), Option.bind_some]
  cases hc : chkB R (nodeOf x) with
  | false => rw [okG_no (fun h => by rw [hc] at h; cases h.1)]; rfl
  | true =>
    obtain ⟨c1, c2, c3⟩ := chk_parts hc
    rw [show (true == true) = true from rfl, cond_true, RPutN_ok R (nodeOf x) hc (fun k hk => hgood k (k1 k hk) (c2 k hk)) (by omega), Option.bind_some, Bool.true_and]
    congr 1
    rw [Bool.eq_iff_iff, okG_iff, beq_iff_eq]
    exact ⟨fun h => ⟨hc, h⟩, fun h => h.2⟩
theorem RGet_ok (a : Int) (hr : g_ref05_Read s 0 4096 = some (x, (s.length : Int), a, 0)) : ∃ m, gs_ref06_Get self s = some (m, okG R s x) ∧ (okG R s x = true → m = nodeOf x) := by
  have hF := fin_ok hx he hl hself hgood
  by_cases h2 : x.fL.length = 2
  · have ha : RT 64 (idx x.fL (0 : Int)) ∧ (ienc (idx x.fL (0 : Int))).length < s.length ∧ (refOf (idx x.fL (0 : Int))).length < s.length ∧ (idx x.fL (0 : Int)).fS.length < s.length := it_kid hx he (idx_mem x.fL (i := 0) (by omega))
    have hb : RT 64 (idx x.fL (1 : Int)) ∧ (ienc (idx x.fL (1 : Int))).length < s.length ∧ (refOf (idx x.fL (1 : Int))).length < s.length ∧ (idx x.fL (1 : Int)).fS.length < s.length := it_kid hx he (idx_mem x.fL (i := 1) (by omega))
    have e : nodeOf x = pairN (idx x.fL (0 : Int)) (idx x.fL (1 : Int)) := if_pos h2
    have hxl : x = ⟨true, [], [idx x.fL (0 : Int), idx x.fL (1 : Int)]⟩ := by
      have hL := it_list hx he (by intro e; rw [e] at h2; cases h2)
      have hS := hx.2.1 hL
      have hFL : x.fL = [idx x.fL (0 : Int), idx x.fL (1 : Int)] := by
        obtain ⟨p, q, hpq⟩ : ∃ p q, x.fL = [p, q] := by
          match hh : x.fL, h2 with
          | [p, q], _ => exact ⟨p, q, rfl⟩
        rw [hpq]; rfl
      conv => lhs; rw [item_eta x]
      rw [hL, hS, ← hFL]
    generalize hA : idx x.fL (0 : Int) = A at *
    generalize hB : idx x.fL (1 : Int) = B at *
    obtain ⟨p, leaf, ok, hp, hpo⟩ := path_ok A.fS (by omega)
    have start : ∀ r, (bif ((!ok) || A.fList) then
        some (.inr ((⟨0, ([] : (List UInt8)), ([] : List UInt8), (Arr.rep 16 ([] : (List UInt8)))⟩ : Node), false))
        else
        (bif leaf then
        ((bif ((!B.fList) == true) then gs_ref06_May self (⟨1, p, B.fS, (Arr.rep 16 ([] : (List UInt8)))⟩ : Node) else some default).bind fun (x_13 : Bool) =>
        some (.inr ((⟨1, p, B.fS, (Arr.rep 16 ([] : (List UInt8)))⟩ : Node), ((!B.fList) && x_13))))
        else
        ((gs_ref06_kid self B).bind fun (x_16 : ((List UInt8) × Bool)) =>
        ((bif (x_16.2 == true) then gs_ref06_May self (⟨2, p, ([] : List UInt8), ((Arr.rep 16 ([] : (List UInt8))).put (0 : Int) (x_16.1))⟩ : Node) else some default).bind fun (x_18 : Bool) =>
        ((bif ((x_16.2 && x_18) == true) then g_ref06_Put (⟨2, p, ([] : List UInt8), ((Arr.rep 16 ([] : (List UInt8))).put (0 : Int) (x_16.1))⟩ : Node) else some default).bind fun (x_20 : (List UInt8)) =>
        some (.inr ((⟨2, p, ([] : List UInt8), ((Arr.rep 16 ([] : (List UInt8))).put (0 : Int) (x_16.1))⟩ : Node), ((x_16.2 && x_18) && (x_20 == s))))))))) = (some (Sum.inr r) : Option (C_ref06_Get ⊕ (Node × Bool))) → gs_ref06_Get self s = some r := by
      intro r h
      refine theC_eq (Comes.stop ?_)
      simp only [step_ref06_Get, hr, Option.bind_some, decide_true, Bool.not_true, Bool.false_or]
      rw [decide_eq_true (by omega), Bool.not_true, Bool.false_and, cond_false, cond_true, gO_pos (by omega), hA, hB, hp, Option.bind_some, gO_pos (fun _ => by omega), gO_pos (by omega), gO_pos (by omega), gO_pos (by omega)]
      exact h
    rcases hpo with ⟨rfl, hE, rfl, rfl⟩ | ⟨rfl, hE⟩
    · obtain ⟨u1, u2, u3⟩ := unpE_eq hE
      have hAl : A.fList = false := by
        cases h : A.fList with
        | false => rfl
        | true => exact absurd (ha.1.2.1 h) u1
      have hAt : A = txt A.fS := by
        conv => lhs; rw [item_eta A, hAl, ha.1.1 hAl]
        rfl
      cases hleaf : unpL A.fS with
      | true =>
        have en : nodeOf x = ⟨1, unpP A.fS, B.fS, Arr.rep 16 []⟩ := by rw [e]; unfold pairN; rw [if_pos hleaf]
        obtain ⟨k1, k2, k3⟩ := node_small hx he
        have hM := May_ok self R (nodeOf x) (fun k hk => hself k (k1 k hk)) (by omega)
        refine ⟨nodeOf x, start _ ?_, fun _ => rfl⟩
        rw [hAl, hleaf, ← en, hM]
        simp only [Bool.not_true, Bool.or_self, cond_false, cond_true]
        cases hBl : B.fList with
        | false =>
          have hBt : B = txt B.fS := by
            conv => lhs; rw [item_eta B, hBl, hb.1.1 hBl]
            rfl
          have hi : ienc (itemN (nodeOf x)) = s := by
            have : itemN (nodeOf x) = x := by
              rw [en]
              have u4 := u3
              rw [hleaf] at u4
              show (⟨true, [], [txt (packS (unpP A.fS) true), txt B.fS]⟩ : Item) = x
              rw [u4, ← hAt, ← hBt]; exact hxl.symm
            rw [this, he]
          have : okG R s x = chkB R (nodeOf x) := by
            rw [Bool.eq_iff_iff, okG_iff]; exact ⟨fun h => h.1, fun h => ⟨h, hi⟩⟩
          rw [this]; rfl
        | true =>
          have hBS := hb.1.2.1 hBl
          have : okG R s x = false := by
            refine okG_no fun h => ?_
            have := (chk_parts h.1).2.2
            rw [en, hBS] at this
            simp [shapeB] at this
          rw [this]; rfl
      | false =>
        have en : nodeOf x = ⟨2, unpP A.fS, [], K1 (refOf B)⟩ := by rw [e]; unfold pairN; rw [if_neg (by rw [hleaf]; simp)]
        have hK := kid_ok (n := 64) (R := R) hb.1 (by omega) (hself _ hb.2.2.1)
        have hmem : refOf B ∈ (nodeOf x).fKids.1 := by
          rw [en]
          exact List.mem_iff_getElem.2 ⟨0, by rw [(K1 (refOf B)).2]; omega, rfl⟩
        by_cases hbig : bigI B = true
        · rw [if_pos hbig] at hK
          have : okG R s x = false := by
            cases ho : okG R s x with
            | false => rfl
            | true =>
              have hN := itemN_eq hx he hl hself hgood ho
              have hR := (chk_parts (okG_iff.1 ho).1).2.1 _ hmem
              have hg := hgood _ hb.2.2.1 hR
              rw [en] at hN
              have hN : (⟨true, [], [txt (packS (unpP A.fS) false), itemR (refOf B)]⟩ : Item) = x := hN
              have := fL_eq hN
              rw [hxl] at this
              simp only [List.cons.injEq, and_true] at this
              exact absurd this.2 (big_not hbig hg)
          refine ⟨_, start (⟨2, unpP A.fS, [], (Arr.rep 16 []).put 0 []⟩, false) ?_ |>.trans (by rw [this]), fun h => by rw [this] at h; cases h⟩
          rw [hAl, hleaf, hK]
          rfl
        · rw [if_neg hbig] at hK
          cases hR : R (refOf B) with
          | false =>
            have : okG R s x = false := by
              refine okG_no fun h => ?_
              have := (chk_parts h.1).2.1 _ hmem
              rw [hR] at this; cases this
            refine ⟨_, start (⟨2, unpP A.fS, [], (Arr.rep 16 []).put 0 (refOf B)⟩, false) ?_ |>.trans (by rw [this]), fun h => by rw [this] at h; cases h⟩
            rw [hAl, hleaf, hK, hR]
            rfl
          | true =>
            refine ⟨nodeOf x, start _ ?_, fun _ => rfl⟩
            rw [hAl, hleaf, hK, hR]
            simp only [Bool.not_true, Bool.or_self, cond_false, Option.bind_some]
            have en' : (⟨2, unpP A.fS, [], (Arr.rep 16 []).put 0 (refOf B)⟩ : Node) = nodeOf x := en.symm
            rw [en', show (true == true) = true from rfl, cond_true]
            cases hm : gs_ref06_May self (nodeOf x) with
            | none => rw [hm] at hF; cases hF
            | some b =>
              rw [hm, Option.bind_some] at hF
              rw [Option.bind_some, Bool.true_and]
              cases hg : (bif (b == true) then g_ref06_Put (nodeOf x) else some default) with
              | none => rw [hg] at hF; cases hF
              | some z =>
                rw [hg, Option.bind_some] at hF
                rw [Option.bind_some, Option.some.inj hF]
    · have : okG R s x = false := by
        refine okG_no fun h => ?_
        obtain ⟨w1, w2⟩ := unpE_ne hE
        have hs := (chk_parts h.1).2.2
        rw [e] at hs
        unfold pairN at hs
        rw [if_neg (by rw [w2]; simp), w1] at hs
        simp [shapeB] at hs
      refine ⟨_, (start (zeroN, false) rfl).trans (by rw [this]), fun h => by rw [this] at h; cases h⟩
  · by_cases h17 : x.fL.length = 17
    · have e : nodeOf x = ⟨3, [], [], putK x.fL 16⟩ := by unfold nodeOf; rw [if_neg h2, if_pos h17]
      have hkid : ∀ i : Nat, i < 16 → gs_ref06_kid self (idx x.fL (i : Int)) = some (if bigI (idx x.fL (i : Int)) = true then ([], false) else (refOf (idx x.fL (i : Int)), R (refOf (idx x.fL (i : Int))))) := by
        intro i hi
        have hk := it_kid hx he (idx_mem x.fL (i := i) (by omega))
        exact kid_ok hk.1 (by have := hk.2.1; omega) (hself _ hk.2.2.1)
      obtain ⟨r, hr1, hr2⟩ := Comes.ex (step := step_ref06_Get self s) (fun i => .L1 (i : Int) x.fList x.fS x.fL (putK x.fL i)) (fun i => bigI (idx x.fL (i : Int)) || !(R (refOf (idx x.fL (i : Int))))) 16 (fun _ => (zeroN, false)) (nodeOf x, okG R s x) (by
          intro i hi h
          rw [Bool.or_eq_false_iff, Bool.not_eq_false'] at h
          simp only [step_ref06_Get]
          rw [decide_eq_true (by omega), cond_true, gO_pos (by omega), hkid i hi, if_neg (by rw [h.1]; simp), Option.bind_some, h.2]
          simp only [Bool.not_true, cond_false]
          rw [gO_pos (by omega), gO_pos (by unfold inI; omega)]
          rfl) (by
          intro i hi h
          simp only [step_ref06_Get]
          rw [decide_eq_true (by omega), cond_true, gO_pos (by omega), hkid i hi]
          by_cases hb : bigI (idx x.fL (i : Int)) = true
          · rw [if_pos hb]; rfl
          · have hb' : bigI (idx x.fL (i : Int)) = false := by simpa using hb
            rw [hb', Bool.false_or] at h
            rw [if_neg hb, Option.bind_some]
            simp only [h, cond_true]
            rfl) (by
          refine Comes.stop ?_
          simp only [step_ref06_Get]
          rw [decide_eq_false (by omega), cond_false, show (⟨3, [], [], putK x.fL 16⟩ : Node) = nodeOf x from e.symm]
          cases hm : gs_ref06_May self (nodeOf x) with
          | none => rw [hm] at hF; cases hF
          | some b =>
            rw [hm, Option.bind_some] at hF
            rw [Option.bind_some]
            cases hg : (bif (b == true) then g_ref06_Put (nodeOf x) else some default) with
            | none => rw [hg] at hF; cases hF
            | some z =>
              rw [hg, Option.bind_some] at hF
              rw [Option.bind_some, Option.some.inj hF])
      have hG : gs_ref06_Get self s = some r := by
        refine theC_eq (Comes.next (c' := .L1 0 x.fList x.fS x.fL (Arr.rep 16 [])) ?_ hr1)
        simp only [step_ref06_Get, hr, Option.bind_some, decide_true, Bool.not_true, Bool.false_or]
        rw [decide_eq_false (by omega), decide_eq_true (by omega)]
        rfl
      rcases hr2 with ⟨i, hi, h1, _, rfl⟩ | ⟨_, rfl⟩
      · have : okG R s x = false := by
          cases ho : okG R s x with
          | false => rfl
          | true =>
            have := okG_kids hx he hl hself hgood ho h17 i hi
            rw [this.1, this.2] at h1; cases h1
        exact ⟨zeroN, by rw [hG, this], fun h => by rw [this] at h; cases h⟩
      · exact ⟨nodeOf x, hG, fun _ => rfl⟩
    · have e : nodeOf x = zeroN := by unfold nodeOf; rw [if_neg h2, if_neg h17]
      have : okG R s x = false := by
        refine okG_no fun h => ?_
        have hs := (chk_parts h.1).2.2
        rw [e] at hs
        simp [shapeB, zeroN] at hs
      refine ⟨zeroN, ?_, fun h => by rw [this] at h; cases h⟩
      rw [this]
      refine theC_eq (Comes.stop ?_)
      simp only [step_ref06_Get, hr, Option.bind_some, decide_true, Bool.not_true, Bool.false_or]
      rw [decide_eq_false (by omega), decide_eq_false (by omega)]
      rfl
end
end Go.Proofs.Ytoeppofkmcdknaa.K
