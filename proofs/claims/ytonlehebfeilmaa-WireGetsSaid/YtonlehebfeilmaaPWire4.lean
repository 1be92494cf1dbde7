/- WirePuts: what the law reckons is true. -/
import Derived.Test.YtonlehebfeilmaaPWire3
namespace Go.Proofs.Ytonlehebfeilmaa.K
open Go Go.RowKit
set_option linter.unusedSimpArgs false
set_option linter.unusedVariables false

theorem tI_len (s : List UInt8) (h : s.length ≤ 2 ^ 32) : (ienc (tI s)).length ≤ s.length + 6 := by
  have := hd_le false h
  rw [ienc_eq, if_pos (show (tI s).fList = false from rfl)]
  split
  · show s.length ≤ _; omega
  · rw [List.length_append]; show (hd false s.length).length + s.length ≤ _; omega
theorem lI_len (l : List Item) (h : (iencs l).length ≤ 2 ^ 32) : (ienc (lI l)).length ≤ (iencs l).length + 6 := by
  have := hd_le true h
  rw [ienc_eq, if_neg (by simp [lI]), List.length_append]; show (hd true (iencs l).length).length + (iencs l).length ≤ _; omega
theorem texts_len (n : Nat) (hn : n ≤ 70000) : ∀ ts : List (List UInt8), (∀ t ∈ ts, t.length ≤ n) → (iencs (ts.map tI)).length ≤ (n + 6) * ts.length
  | [], _ => by simp [iencs]
  | t :: r, h => by
    have h1 := h t (List.mem_cons_self ..)
    have h2 := tI_len t (by omega)
    have h3 := texts_len n hn r fun x hx => h x (List.mem_cons_of_mem _ hx)
    rw [List.map_cons, iencs, List.length_append, List.length_cons, Nat.mul_succ]; omega
theorem texts_cnt : ∀ ts : List (List UInt8), icnts (ts.map tI) = ts.length
  | [] => rfl
  | t :: r => by rw [List.map_cons, icnts, texts_cnt r, List.length_cons, icnt_eq]; simp [tI, icnts]; omega
theorem linkI_len (l : Link) (h1 : lnkB l = true) (h2 : okLk l) : (ienc (linkI l)).length ≤ 56501 := by
  have hr := lnk_range h1
  have h3 : (bigN l.fEpoch.toNat).length ≤ 3 := bigN_len 3 _ (by rw [show (256 : Nat) ^ 3 = 16777216 from by decide]; omega)
  have h4 := texts_len 700 (by omega) l.fProof h2.2
  have h80 := h2.1
  have h5 : (iencs (l.fProof.map tI)).length ≤ 56480 := by omega
  have h6 := lI_len (l.fProof.map tI) (by omega)
  have h7 := tI_len (bigN l.fEpoch.toNat) (by omega)
  have h8 : (iencs [tI (bigN l.fEpoch.toNat), lI (l.fProof.map tI)]).length = (ienc (tI (bigN l.fEpoch.toNat))).length + (ienc (lI (l.fProof.map tI))).length := by simp [iencs]
  have h9 := lI_len [tI (bigN l.fEpoch.toNat), lI (l.fProof.map tI)] (by omega)
  unfold linkI
  omega
theorem linkI_cnt (l : Link) : icnt (linkI l) = 3 + l.fProof.length := by
  unfold linkI lI
  rw [icnt_eq]
  simp only [icnts]
  rw [icnt_eq, icnt_eq]
  simp only [texts_cnt]
  simp [tI, icnts]; omega
theorem links_len : ∀ ls : List Link, (∀ l ∈ ls, lnkB l = true ∧ okLk l) → (iencs (ls.map linkI)).length ≤ 56501 * ls.length
  | [], _ => by simp [iencs]
  | l :: r, h => by
    have h1 := h l (List.mem_cons_self ..)
    have h2 := linkI_len l h1.1 h1.2
    have h3 := links_len r fun x hx => h x (List.mem_cons_of_mem _ hx)
    rw [List.map_cons, iencs, List.length_append, List.length_cons, Nat.mul_succ]; omega
theorem links_cnt : ∀ ls : List Link, icnts (ls.map linkI) = 3 * ls.length + tsum ls
  | [] => rfl
  | l :: r => by rw [List.map_cons, icnts, links_cnt r, linkI_cnt, List.length_cons, tsum_cons]; omega
theorem mem_idx {α : Type} [Inhabited α] {l : List α} {x : α} (h : x ∈ l) : ∃ i : Nat, i < l.length ∧ idx l (i : Int) = x := by
  obtain ⟨i, hi, e⟩ := List.mem_iff_getElem.1 h
  exact ⟨i, hi, by rw [idx_nat hi, e]⟩
theorem May_link {w : Witness} (hM : MayP w) : ∀ l ∈ w.fLinks, lnkB l = true := by
  intro l hl
  obtain ⟨i, hi, rfl⟩ := mem_idx hl
  exact (hM.2.2 i hi).1
theorem witI_len (w : Witness) (hM : MayP w) (hL : LightP w) : (ienc (witI w)).length ≤ 4000000 := by
  have h1 := links_len w.fLinks fun l hl => ⟨May_link hM l hl, hL.2.1 l hl⟩
  have h64 := hM.2.1
  have h2 : (iencs (w.fLinks.map linkI)).length ≤ 3616064 := by omega
  have h3 := lI_len (w.fLinks.map linkI) (by omega)
  have h32 := w.fKey.2
  have h4 := tI_len w.fKey.1 (by omega)
  have h5 : (iencs [tI w.fKey.1, lI (w.fLinks.map linkI)]).length = (ienc (tI w.fKey.1)).length + (ienc (lI (w.fLinks.map linkI))).length := by simp [iencs]
  have h6 := lI_len [tI w.fKey.1, lI (w.fLinks.map linkI)] (by omega)
  unfold witI
  omega
theorem witI_cnt (w : Witness) : icnt (witI w) = 3 + 3 * w.fLinks.length + tsum w.fLinks := by
  unfold witI lI
  rw [icnt_eq]
  simp only [icnts]
  rw [icnt_eq, icnt_eq]
  simp only [links_cnt]
  simp [tI, icnts]; omega
theorem tI_ok {s : List UInt8} (h : s.length ≤ 9223372036854775807) (n : Nat) : OKn (n + 1) (tI s) := ⟨by simp [tI], h, by simp [tI]⟩
theorem tI_rt (s : List UInt8) (n : Nat) : RT (n + 1) (tI s) := ⟨fun _ => rfl, fun h => by simp [tI] at h, by simp [tI]⟩
theorem lI_ok {l : List Item} {n : Nat} (h : l.length ≤ 9223372036854775807) (k : ∀ y ∈ l, OKn n y) : OKn (n + 1) (lI l) := ⟨h, by simp [lI], k⟩
theorem lI_rt {l : List Item} {n : Nat} (k : ∀ y ∈ l, RT n y) : RT (n + 1) (lI l) := ⟨fun h => by simp [lI] at h, fun _ => rfl, k⟩
theorem badT_len {s : List UInt8} (h : badT s = false) : s ≠ [] ∧ s.length ≤ 66000 := by
  unfold badT at h
  simp only [Bool.or_eq_false_iff, decide_eq_false_iff_not] at h
  exact ⟨by have := h.1; intro e; subst e; simp at this, by omega⟩
theorem lnk_texts {l : Link} (h : lnkB l = true) : ∀ t ∈ l.fProof, badT t = false := by
  unfold lnkB at h
  simp only [Bool.and_eq_true, Bool.not_eq_true', List.any_eq_false] at h
  intro t ht
  have := h.2 t ht
  simpa using this
theorem linkI_ok {l : Link} (h : lnkB l = true) : OKn 3 (linkI l) := by
  have hr := lnk_range h
  have h3 : (bigN l.fEpoch.toNat).length ≤ 3 := bigN_len 3 _ (by rw [show (256 : Nat) ^ 3 = 16777216 from by decide]; omega)
  refine lI_ok (by simp) fun y hy => ?_
  simp only [List.mem_cons, List.not_mem_nil, or_false] at hy
  rcases hy with rfl | rfl
  · exact tI_ok (by omega) 1
  · refine lI_ok (by simp; omega) fun z hz => ?_
    obtain ⟨t, ht, rfl⟩ := List.mem_map.1 hz
    exact tI_ok (by have := badT_len (lnk_texts h t ht); omega) 0
theorem linkI_rt (l : Link) : RT 3 (linkI l) := by
  refine lI_rt fun y hy => ?_
  simp only [List.mem_cons, List.not_mem_nil, or_false] at hy
  rcases hy with rfl | rfl
  · exact tI_rt _ 1
  · refine lI_rt fun z hz => ?_
    obtain ⟨t, ht, rfl⟩ := List.mem_map.1 hz
    exact tI_rt _ 0
theorem witI_ok {w : Witness} (hM : MayP w) : OKn 5 (witI w) := by
  refine lI_ok (by simp) fun y hy => ?_
  simp only [List.mem_cons, List.not_mem_nil, or_false] at hy
  have h32 := w.fKey.2
  have h64 := hM.2.1
  rcases hy with rfl | rfl
  · exact tI_ok (by omega) 3
  · refine lI_ok (by simp; omega) fun z hz => ?_
    obtain ⟨t, ht, rfl⟩ := List.mem_map.1 hz
    exact linkI_ok (May_link hM t ht)
theorem witI_rt (w : Witness) : RT 5 (witI w) := by
  refine lI_rt fun y hy => ?_
  simp only [List.mem_cons, List.not_mem_nil, or_false] at hy
  rcases hy with rfl | rfl
  · exact tI_rt _ 3
  · refine lI_rt fun z hz => ?_
    obtain ⟨t, ht, rfl⟩ := List.mem_map.1 hz
    exact linkI_rt t

theorem wire_turn (w : Witness) (hM : MayP w) (hL : LightP w) : g_wire_Put w = some (ienc (witI w), 0) ∧ g_wire_Get (ienc (witI w)) = some (w, 0) := by
  have hlen := witI_len w hM hL
  have hcnt : icnt (witI w) ≤ 4096 := by
    rw [witI_cnt]
    have := hM.2.1
    have := hL.2.2
    omega
  have hp := Put_ok (witI w) (witI_ok hM) (witI_rt w) (by decide) (by omega) hcnt
  have h1 := WPut_ok w hM _ hp
  have h2 : putR (ienc (witI w), 0) = (ienc (witI w), 0) := by
    have h9 : decide ((4194304 : Int) < ((ienc (witI w)).length : Int)) = false := decide_eq_false (by omega)
    unfold putR
    simp only [h9]
    rfl
  rw [h2] at h1
  exact ⟨h1, WGet_ok w _ hM (by omega) (Whole_ok (witI w) (witI_rt w) (by decide) (by omega) hcnt) h1⟩
theorem bys_le {n : Nat} : ∀ p : List (List UInt8), (∀ t ∈ p, t.length ≤ n) → bys p ≤ n * p.length
  | [], _ => by simp [bys]
  | t :: r, h => by
    have h1 := h t (List.mem_cons_self ..)
    have h2 := bys_le r fun x hx => h x (List.mem_cons_of_mem _ hx)
    rw [bys_cons, List.length_cons, Nat.mul_succ]; omega
theorem bsum_le : ∀ ls : List Link, (∀ l ∈ ls, okLk l) → bsum ls ≤ 700 * tsum ls
  | [], _ => by simp [bsum]
  | l :: r, h => by
    have h1 := h l (List.mem_cons_self ..)
    have h2 := bsum_le r fun x hx => h x (List.mem_cons_of_mem _ hx)
    have h3 := bys_le l.fProof h1.2
    rw [bsum_cons, tsum_cons, Nat.mul_add]; omega
theorem Light_rows {w : Witness} (h : LightP w) : RowsOK w := by
  refine ⟨by have := h.1; omega, fun l hl => ?_⟩
  have := (h.2.1 l hl).1
  omega

/-! ### What must come at any rate -/
def w0 : Witness := ⟨Arr.rep 32 0, [⟨3, [[97, 98], [99]]⟩, ⟨4, []⟩]⟩
theorem w0_may : MayP w0 := by
  refine ⟨by decide, by decide, fun i hi => ?_⟩
  match i, hi with
  | 0, _ => exact ⟨by decide, by decide⟩
  | 1, _ => exact ⟨by decide, by decide⟩
theorem w0_light : LightP w0 := by
  refine ⟨by decide, fun l hl => ?_, by decide⟩
  simp only [w0, List.mem_cons, List.not_mem_nil, or_false] at hl
  rcases hl with rfl | rfl
  · exact ⟨by decide, by simp⟩
  · exact ⟨by decide, by simp⟩
theorem w0_len : 40 < (ienc (witI w0)).length := by
  have h3 : bigN 3 = [3] := by simp [bigN]
  have h4 : bigN 4 = [4] := by simp [bigN]
  have e3 : ((3 : Int).toNat) = 3 := rfl
  have e4 : ((4 : Int).toNat) = 4 := rfl
  simp [witI, w0, lI, tI, linkI, ienc, iencs, hd, hdC, h3, h4, e3, e4, Arr.rep]
theorem awake15_ok : g_law15_awake = some true := by
  have e : (⟨(Arr.rep 32 (0 : UInt8)), ([(⟨3, ([([97, 98] : List UInt8), ([99] : List UInt8)] : List (List UInt8))⟩ : Link), (⟨4, ([] : (List (List UInt8)))⟩ : Link)] : List Link)⟩ : Witness) = w0 := rfl
  obtain ⟨h1, h2⟩ := wire_turn w0 w0_may w0_light
  have h3 := WSize_ok w0 (by decide) (by decide) (by decide)
  have h4 : ¬ MayP ⟨Arr.rep 32 0, []⟩ := fun h => by have := h.1; simp at this
  have h5 := Check_ok ⟨Arr.rep 32 0, []⟩
  rw [mb_false h4] at h5
  have h6 := w0_len
  unfold g_law15_awake
  rw [e, h1, Option.bind_some]
  simp only
  rw [h2, Option.bind_some, h3, Option.bind_some]
  simp only
  have e1 : ((tsum w0.fLinks : Nat) : Int) = 2 := by decide
  have e2 : ((bsum w0.fLinks : Nat) : Int) = 3 := by decide
  rw [e1, e2, decide_eq_true (show (40 : Int) < ((ienc (witI w0)).length : Int) by omega), h5, WSame_ok w0 w0 (Light_rows w0_light), sm_self]
  rfl

/-! ### The law -/
theorem WirePuts_L1 (w z : Witness) (hw : LightP w) (hz : LightP z) (s : List UInt8) (e : Int) (hp : g_wire_Put w = some (s, e)) (k : Nat) : ∀ (i a b : Nat), k + i = w.fLinks.length → a + tsum (w.fLinks.drop i) = tsum w.fLinks → b + bsum (w.fLinks.drop i) = bsum w.fLinks →
    Comes (step_law15_WirePuts w z) (.L1 s e (mb w) (a : Int) (b : Int) (i : Int)) true := by
  have h1 := hw.1
  have h3 := hw.2.2
  have h4 := bsum_le w.fLinks hw.2.1
  induction k with
  | zero =>
    intro i a b hi ha hb
    rw [List.drop_eq_nil_of_le (by omega)] at ha hb
    have ea : a = tsum w.fLinks := by simpa [tsum] using ha
    have eb : b = bsum w.fLinks := by simpa [bsum] using hb
    subst ea eb
    refine Comes.stop ?_
    simp only [step_law15_WirePuts]
    rw [decide_eq_false (by omega), cond_false, WSize_ok w (by omega) (by omega) (by omega), Option.bind_some, Check_ok, Option.bind_some]
    simp only [decide_true, Bool.not_true, Bool.or_false]
    by_cases hM : MayP w
    · obtain ⟨t1, t2⟩ := wire_turn w hM hw
      rw [t1] at hp
      simp only [Option.some.injEq, Prod.mk.injEq] at hp
      obtain ⟨rfl, rfl⟩ := hp
      rw [mb_true hM]
      simp only [if_true, decide_true, beq_self_eq_true, Bool.not_true, cond_true, cond_false, WSame_ok w z (Light_rows hw), R15Same_ok w z (Light_rows hw), Option.bind_some, Bool.or_self, t2, awake15_ok, Bool.and_self, RItem_ok w hM, RPut_ok (witI w) (witI_ok hM) (by have := witI_len w hM hw; omega), R15Same_ok w w (Light_rows hw), sm_self, Bool.true_and, Bool.and_true]
    · rw [WPut_no w hM] at hp
      simp only [Option.some.injEq, Prod.mk.injEq] at hp
      obtain ⟨rfl, rfl⟩ := hp
      rw [mb_false hM]
      simp [WSame_ok w z (Light_rows hw), R15Same_ok w z (Light_rows hw), awake15_ok]
  | succ k ih =>
    intro i a b hi ha hb
    have hi2 : i < w.fLinks.length := by omega
    rw [List.drop_eq_getElem_cons hi2, tsum_cons] at ha
    rw [List.drop_eq_getElem_cons hi2, bsum_cons] at hb
    have hl := hw.2.1 _ (List.getElem_mem hi2)
    have h80 := hl.1
    refine Comes.next (c' := .L1 s e (mb w) ((a + w.fLinks[i].fProof.length : Nat) : Int) ((b + bys w.fLinks[i].fProof : Nat) : Int) ((i + 1 : Nat) : Int)) ?_ (ih (i + 1) _ _ (by omega) (by omega) (by omega))
    simp only [step_law15_WirePuts]
    rw [decide_eq_true (by omega), cond_true, gO_pos (by omega), idx_nat hi2, gO_pos (by unfold inI; omega), gO_pos (by omega), Bytes_ok _ (by omega) (by omega), Option.bind_some, gO_pos (by unfold inI; omega), gO_pos (by unfold inI; omega)]
    rfl
theorem WPut_some (w : Witness) (hw : LightP w) : ∃ s e, g_wire_Put w = some (s, e) := by
  by_cases hM : MayP w
  · exact ⟨_, _, (wire_turn w hM hw).1⟩
  · exact ⟨_, _, WPut_no w hM⟩
theorem WirePuts_true (w z : Witness) : g_law15_WirePuts w z = some true := by
  refine theC_eq ?_
  obtain ⟨x, hx, hx2⟩ := Light_ok w
  obtain ⟨y, hy, hy2⟩ := Light_ok z
  cases x with
  | false =>
    refine Comes.stop ?_
    simp only [step_law15_WirePuts, hx, Option.bind_some]
    simp [awake15_ok]
  | true =>
    cases y with
    | false =>
      refine Comes.stop ?_
      simp only [step_law15_WirePuts, hx, hy, Option.bind_some]
      simp [awake15_ok]
    | true =>
      obtain ⟨s, e, hp⟩ := WPut_some w (hx2 rfl)
      refine Comes.next (c' := .L1 s e (mb w) ((0 : Nat) : Int) ((0 : Nat) : Int) ((0 : Nat) : Int)) ?_ (WirePuts_L1 w z (hx2 rfl) (hy2 rfl) s e hp _ 0 0 0 rfl (by rw [List.drop_zero, Nat.zero_add]) (by rw [List.drop_zero, Nat.zero_add]))
      simp only [step_law15_WirePuts, hx, hy, Option.bind_some]
      simp [hp, May_ok]
end Go.Proofs.Ytonlehebfeilmaa.K
