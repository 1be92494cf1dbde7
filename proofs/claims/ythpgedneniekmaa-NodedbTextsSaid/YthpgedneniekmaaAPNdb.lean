import Derived.Test.YthpgedneniekmaaAPPin5
import Derived.Test.YthpgedneniekmaaAPR03c
import Derived.Test.YthpgedneniekmaaAWLaw49
/- Package nodedb: NodedbTexts holds. -/
namespace Go.Proofs.Ythpgedneniekmaa.K
open Go
set_option linter.unusedVariables false
set_option linter.unusedSimpArgs false
theorem okp_nil : OKP [] := ⟨fun p h => (nomatch h), fun p h => (nomatch h), fun p h => (nomatch h), List.Pairwise.nil⟩
def SumsOK (P : List (List Row)) : Prop := ∀ r ∈ P.flatten, shaA r.fBody = r.fSum
theorem All48B_ok (P : List (List Row)) (h1 : P.length ≤ 1000000000) (h2 : P.flatten.length ≤ 1000000000) : g_pindex_Index_All ⟨P⟩ = some P.flatten := by
  unfold g_pindex_Index_All
  rw [ConcatB_ok P h1 h2]; rfl
theorem put_mem {P : List (List Row)} (h : OKP P) {r x : Row} (hx : x ∈ (putP P r).flatten) : x = r ∨ x ∈ P.flatten := by
  by_cases hP : P = []
  · subst hP
    exact .inl (by simpa [putP] using hx)
  · have a1 := (atF_spec h r hP).1
    rw [put_flat h r hP] at hx
    rw [flat_at a1]
    rcases List.mem_append.1 hx with hx | hx
    · exact .inr (List.mem_append_left _ hx)
    · rcases List.mem_append.1 hx with hx | hx
      · rcases ins_mem hx with hx | hx
        · exact .inl hx
        · exact .inr (List.mem_append_right _ (List.mem_append_left _ hx))
      · exact .inr (List.mem_append_right _ (List.mem_append_right _ hx))
def bodyV (l : List Row) : List UInt8 × Bool := match l with | [] => ([], false) | r :: _ => (r.fBody, true)
theorem Body_ok (P : List (List Row)) (x : Arr 32 UInt8) (h1 : P.length ≤ 1000) (h2 : P.flatten.length ≤ 1000000) : g_nodedb_DB_Body ⟨⟨P⟩⟩ x = some (bodyV (P.flatten.filter fun r => r.fSum.1 == x.1)) := by
  unfold g_nodedb_DB_Body
  simp only []
  rw [Of_ok P x h1 h2, Option.bind_some]
  generalize P.flatten.filter (fun r => r.fSum.1 == x.1) = l
  cases l with
  | nil => rfl
  | cons r q =>
    rw [decide_eq_false (by rw [List.length_cons]; omega), cond_false, gO_pos (by rw [List.length_cons]; omega)]
    rfl
theorem Hold_ok {P : List (List Row)} (h : OKP P) (hs : SumsOK P) (hl : P.flatten.length ≤ 100) (ep : Int) (b : List UInt8) : ∃ Q e, g_nodedb_DB_Hold ⟨⟨P⟩⟩ ep b = some (⟨⟨Q⟩⟩, e) ∧ (e = 0 → OKP Q ∧ Q.flatten.length ≤ P.flatten.length + 1 ∧ SumsOK Q) := by
  have hpl := pages_le h.ne
  unfold g_nodedb_DB_Hold
  cases hb : ((decide (ep < 0) || decide (1048576 < ep)) || decide ((70000 : Int) < (b.length : Int))) with
  | true => exact ⟨P, 3, rfl, fun h => absurd h (by decide)⟩
  | false =>
    have hbl : b.length ≤ 70000 := by
      have := (Bool.or_eq_false_iff.1 hb).2
      rw [decide_eq_false_iff_not] at this
      omega
    rw [cond_false, SumOf_ok b (by omega), Option.bind_some, Body_ok P _ (by omega) (by omega), Option.bind_some]
    cases hc : ((bodyV (P.flatten.filter fun r => r.fSum.1 == (shaA b).1)).2 && !((bodyV (P.flatten.filter fun r => r.fSum.1 == (shaA b).1)).1 == b)) with
    | true => exact ⟨P, 16, rfl, fun h => absurd h (by decide)⟩
    | false =>
      have hP := Put48_ok h ⟨shaA b, ep, b⟩ (by omega)
      simp only []
      rw [cond_false, hP, Option.bind_some]
      by_cases hk : (okRow ⟨shaA b, ep, b⟩ && !there P.flatten ⟨shaA b, ep, b⟩) = true
      · rw [if_pos hk]
        refine ⟨putP P ⟨shaA b, ep, b⟩, 0, rfl, fun _ => ⟨put_ok h (Bool.and_eq_true_iff.1 hk).1, put_len h _, fun x hx => ?_⟩⟩
        rcases put_mem h hx with rfl | hx
        · rfl
        · exact hs x hx
      · rw [if_neg hk]
        exact ⟨P, 0, rfl, fun _ => ⟨h, by omega, hs⟩⟩
def sumB (r : Row) : Bool := (shaA r.fBody).1 == r.fSum.1
theorem sumB_iff {r : Row} : sumB r = true ↔ shaA r.fBody = r.fSum := by
  unfold sumB
  rw [beq_iff_eq, Subtype.ext_iff]
theorem Read_L1 (s : List UInt8) (all : List Row) (P : List (List Row)) (hb : ∀ r ∈ all, r.fBody.length ≤ 1000000) (hl : all.length ≤ 1000000000) : Comes (step_nodedb_Read s) (.L1 all (all.length : Int) 0 P) (bif all.all sumB then (⟨⟨P⟩⟩, 0) else (⟨⟨[]⟩⟩, 6)) := by
  have := Comes.all (step := step_nodedb_Read s) (fun i => .L1 all (all.length : Int) (i : Int) P) (fun i => sumB (idx all (i : Int))) all.length ((⟨⟨[]⟩⟩ : DB), (6 : Int)) ((⟨⟨P⟩⟩ : DB), (0 : Int)) (by
    intro i hi hq
    simp only [step_nodedb_Read]
    rw [decide_eq_true (by omega), cond_true, gO_pos (by omega), SumOf_ok _ (hb _ (idx_mem all hi)), Option.bind_some, show ((shaA (idx all (i : Int)).fBody).1 == (idx all (i : Int)).fSum.1) = true from hq, Bool.not_true, cond_false, gO_pos (by unfold inI; omega)]
    rfl) (by
    intro i hi hq
    simp only [step_nodedb_Read]
    rw [decide_eq_true (by omega), cond_true, gO_pos (by omega), SumOf_ok _ (hb _ (idx_mem all hi)), Option.bind_some, show ((shaA (idx all (i : Int)).fBody).1 == (idx all (i : Int)).fSum.1) = false from hq, Bool.not_false, cond_true]) (by
    refine Comes.stop ?_
    simp only [step_nodedb_Read]
    rw [decide_eq_false (by omega), cond_false])
  rw [all_range all sumB] at this
  exact this
theorem body_le {P : List (List Row)} (h : ∀ p ∈ P, mayB p = true) : ∀ r ∈ P.flatten, r.fBody.length ≤ 1000000 := by
  intro r hr
  obtain ⟨p, hp, hrp⟩ := List.mem_flatten.1 hr
  have := (okRow_spec ((may_spec (h p hp)).1 r hrp)).2.2
  omega
theorem sums_all {P : List (List Row)} : P.flatten.all sumB = true ↔ SumsOK P := by
  rw [List.all_eq_true]
  exact ⟨fun h r hr => sumB_iff.1 (h r hr), fun h r hr => sumB_iff.2 (h r hr)⟩
theorem Read_ok {P : List (List Row)} (h : OKP P) (hs : SumsOK P) (hl : P.length ≤ 100) : g_nodedb_Read (textP P) = some (⟨⟨P⟩⟩, 0) := by
  have hmay : ∀ p ∈ P, mayB p = true := fun p hp => h.may hp
  have htl := text_len hmay
  have htl2 := Nat.mul_le_mul_right 560325 hl
  obtain ⟨r1, r2⟩ := text_rows P hmay
  have hL := Read_L1 (textP P) P.flatten P (body_le hmay) (by omega)
  rw [sums_all.2 hs] at hL
  refine theC_eq (Comes.next ?_ hL)
  simp only [step_nodedb_Read]
  rw [Load_put h hl, Option.bind_some]
  simp only []
  rw [decide_true, Bool.not_true, cond_false, All48B_ok P (by omega) (by omega)]
  rfl
theorem Read_any (s : List UInt8) (hs : s.length ≤ 100000000) : ∃ Q e, g_nodedb_Read s = some (⟨⟨Q⟩⟩, e) ∧ ((e ≠ 0 ∧ Q = []) ∨ (e = 0 ∧ (∀ p ∈ Q, mayB p = true) ∧ textP Q = s ∧ SumsOK Q)) := by
  obtain ⟨Q, e, hL, hc⟩ := Load_any s hs
  rcases hc with ⟨h0, rfl, _⟩ | ⟨rfl, hQ, _, ht⟩
  · refine ⟨[], e, theC_eq (Comes.stop ?_), .inl ⟨h0, rfl⟩⟩
    simp only [step_nodedb_Read]
    rw [hL, Option.bind_some]
    simp only []
    rw [decide_eq_false h0]; rfl
  · have hmay : ∀ p ∈ Q, mayB p = true := fun p hp => (hQ p hp).1
    obtain ⟨r1, r2⟩ := text_rows Q hmay
    rw [ht] at r1 r2
    have hst : ∀ r, Comes (step_nodedb_Read s) (.L1 Q.flatten (Q.flatten.length : Int) 0 Q) r → g_nodedb_Read s = some r := fun r hr => by
      refine theC_eq (Comes.next ?_ hr)
      simp only [step_nodedb_Read]
      rw [hL, Option.bind_some]
      simp only []
      rw [decide_true, Bool.not_true, cond_false, All48B_ok Q (by omega) (by omega)]
      rfl
    have hR := Read_L1 s Q.flatten Q (body_le hmay) (by omega)
    cases hb : Q.flatten.all sumB with
    | true =>
      rw [hb] at hR
      exact ⟨Q, 0, hst _ hR, .inr ⟨rfl, hmay, ht, sums_all.1 hb⟩⟩
    | false =>
      rw [hb] at hR
      exact ⟨[], 6, hst _ hR, .inl ⟨by decide, rfl⟩⟩
def aR : Arr 32 UInt8 := shaA [120]
def r1 : Row := ⟨shaA [120], 1, [120]⟩
def r2 : Row := ⟨shaA [120], 2, [120]⟩
theorem l12 : ltR r1 r2 = true := ltR_iff.2 (.inr ⟨rfl, by decide⟩)
theorem l11 : ltR r1 r1 = false := ltR_false.2 (by rintro (h | ⟨_, h⟩); exact absurd h (Nat.lt_irrefl _); exact absurd h (by decide))
theorem ok1 : okRow r1 = true := rfl
theorem ok2 : okRow r2 = true := rfl
theorem put1 : putP [] r1 = [[r1]] := rfl
theorem okp1 : OKP [[r1]] := put1 ▸ put_ok okp_nil ok1
theorem pos12 : pos [r1] r2 = 1 := by
  unfold pos pos
  rw [if_pos l12]
theorem there12 : there [r1] r2 = false := by
  unfold there
  rw [pos12]; rfl
theorem at1p (p : List Row) (r : Row) : atF [p] r = 0 := by
  unfold atF
  show atK [p] r 1 = 0
  unfold atK
  split <;> rfl
theorem put2 : putP [[r1]] r2 = [[r1, r2]] := by
  unfold putP
  rw [if_neg (by decide), at1p]
  have : insR (idx [[r1]] ((0 : Nat) : Int)) r2 = [r1, r2] := by
    show insR [r1] r2 = _
    unfold insR
    rw [there12, pos12]
    rfl
  rw [this]
  rfl
theorem okp2 : OKP [[r1, r2]] := put2 ▸ put_ok okp1 ok2
theorem there21 : there [r1, r2] r1 = true := there_iff.2 ⟨by unfold pos; rw [if_neg (by rw [l11]; decide)]; decide, by unfold pos; rw [if_neg (by rw [l11]; decide)]; rfl, by unfold pos; rw [if_neg (by rw [l11]; decide)]; rfl⟩
theorem drop21 : dropP [[r1, r2]] r1 = [[r2]] := by
  have hr : remR (idx [[r1, r2]] ((0 : Nat) : Int)) r1 = [r2] := by
    show remR [r1, r2] r1 = _
    unfold remR pos
    rw [if_neg (by rw [l11]; decide)]
    rfl
  unfold dropP
  rw [at1p, hr]
  rfl
theorem okp3 : OKP [[r2]] := drop21 ▸ (drop_ok okp2 r1 (by decide)).1
theorem filtR (l : List Row) (h : ∀ r ∈ l, r.fSum = aR) : l.filter (fun r => r.fSum.1 == aR.1) = l := by
  rw [List.filter_eq_self]
  intro r hr
  rw [h r hr]; exact beq_self_eq_true _
theorem hold1 : g_nodedb_DB_Hold ⟨⟨[]⟩⟩ 1 [120] = some (⟨⟨[[r1]]⟩⟩, 0) := by
  have hP := Put48_ok okp_nil r1 (by decide)
  rw [ok1, List.flatten_nil, there_nil, if_pos (by decide), put1] at hP
  unfold g_nodedb_DB_Hold
  rw [show ((decide ((1 : Int) < 0) || decide ((1048576 : Int) < 1)) || decide ((70000 : Int) < (([120] : List UInt8).length : Int))) = false from rfl, cond_false, SumOf_ok _ (by decide), Option.bind_some, Body_ok [] _ (by decide) (by decide), Option.bind_some]
  show ((g_pindex_Index_Put ⟨[]⟩ r1).bind _) = _
  rw [hP]; rfl
theorem hold2 : g_nodedb_DB_Hold ⟨⟨[[r1]]⟩⟩ 2 [120] = some (⟨⟨[[r1, r2]]⟩⟩, 0) := by
  have hP := Put48_ok okp1 r2 (by decide)
  rw [ok2, show ([[r1]] : List (List Row)).flatten = [r1] from rfl, there12, if_pos (by decide), put2] at hP
  have hf := filtR [r1] (by intro r hr; rw [List.mem_singleton.1 hr]; rfl)
  unfold g_nodedb_DB_Hold
  rw [show ((decide ((2 : Int) < 0) || decide ((1048576 : Int) < 2)) || decide ((70000 : Int) < (([120] : List UInt8).length : Int))) = false from rfl, cond_false, SumOf_ok _ (by decide), Option.bind_some, Body_ok [[r1]] _ (by decide) (by decide), Option.bind_some,
    show ([[r1]] : List (List Row)).flatten.filter (fun r => r.fSum.1 == (shaA [120]).1) = [r1] from hf]
  show ((g_pindex_Index_Put ⟨[[r1]]⟩ r2).bind _) = _
  rw [hP]; rfl
theorem size2 : g_nodedb_DB_Size ⟨⟨[[r1, r2]]⟩⟩ = some (1, 1) := by
  have hA := All48B_ok [[r1, r2]] (by decide) (by decide)
  have hb : (r2.fSum.1 == r1.fSum.1) = true := beq_self_eq_true _
  refine theC_eq (Comes.next (c' := .L1 0 0 [r1, r2] 2 0 (Arr.rep 32 0)) ?_ (Comes.next (c' := .L1 1 1 [r1, r2] 2 1 r1.fSum) rfl (Comes.next (c' := .L1 1 1 [r1, r2] 2 2 r2.fSum) ?_ (Comes.stop rfl))))
  · simp only [step_nodedb_DB_Size]
    rw [hA]; rfl
  · simp only [step_nodedb_DB_Size]
    show (bif true then gO (0 ≤ (1 : Int) ∧ (1 : Int) < (([r1, r2] : List Row).length : Int)) (((bif (decide ((1 : Int) = 0) || !(r2.fSum.1 == r1.fSum.1)) then _ else some ((1 : Int), (1 : Int))) : Option (Int × Int)).bind _) else _) = _
    rw [hb]; rfl
theorem size1 : g_nodedb_DB_Size ⟨⟨[[r2]]⟩⟩ = some (1, 1) := by
  have hA := All48B_ok [[r2]] (by decide) (by decide)
  refine theC_eq (Comes.next (c' := .L1 0 0 [r2] 1 0 (Arr.rep 32 0)) ?_ (Comes.next (c' := .L1 1 1 [r2] 1 1 r2.fSum) rfl (Comes.stop rfl)))
  simp only [step_nodedb_DB_Size]
  rw [hA]; rfl
theorem forget : g_nodedb_DB_Forget ⟨⟨[[r1, r2]]⟩⟩ 1 = some (⟨⟨[[r2]]⟩⟩, 0) := by
  have hA := All48B_ok [[r1, r2]] (by decide) (by decide)
  have hD := Drop48_ok okp2 r1 (by decide)
  rw [show ([[r1, r2]] : List (List Row)).flatten = [r1, r2] from rfl, there21, if_pos rfl, drop21] at hD
  refine theC_eq (Comes.next (c' := .L1 1 [r1, r2] 2 0 [[r1, r2]]) ?_ (Comes.next (c' := .L1 1 [r1, r2] 2 1 [[r2]]) ?_ (Comes.next (c' := .L1 1 [r1, r2] 2 2 [[r2]]) rfl (Comes.stop ?_))))
  · simp only [step_nodedb_DB_Forget]
    rw [size2, Option.bind_some]
    show ((g_pindex_Index_All ⟨[[r1, r2]]⟩).bind _) = _
    rw [hA]; rfl
  · simp only [step_nodedb_DB_Forget]
    show (bif true then gO (0 ≤ (0 : Int) ∧ (0 : Int) < (([r1, r2] : List Row).length : Int)) (bif true then ((g_pindex_Index_Drop ⟨[[r1, r2]]⟩ r1.fSum r1.fEpoch).bind _) else _) else _) = _
    rw [hD]; rfl
  · simp only [step_nodedb_DB_Forget]
    show (bif false then _ else ((g_nodedb_DB_Size ⟨⟨[[r2]]⟩⟩).bind _)) = _
    rw [size1]; rfl
theorem held : g_nodedb_DB_Held ⟨⟨[[r2]]⟩⟩ aR = some [2] := by
  have hO := Of_ok [[r2]] aR (by decide) (by decide)
  have hf := filtR [r2] (by intro r hr; rw [List.mem_singleton.1 hr]; rfl)
  rw [show ([[r2]] : List (List Row)).flatten.filter (fun r => r.fSum.1 == aR.1) = [r2] from hf] at hO
  refine theC_eq (Comes.next (c' := .L1 [] [r2] 1 0) ?_ (Comes.next (c' := .L1 [2] [r2] 1 1) rfl (Comes.stop rfl)))
  simp only [step_nodedb_DB_Held]
  rw [hO]; rfl
theorem awake49_ok : g_law49_awake = some true := by
  have hB := Body_ok [[r2]] aR (by decide) (by decide)
  have hf := filtR [r2] (by intro r hr; rw [List.mem_singleton.1 hr]; rfl)
  rw [show ([[r2]] : List (List Row)).flatten.filter (fun r => r.fSum.1 == aR.1) = [r2] from hf] at hB
  have hS : g_ref03_Sum [120] = some aR := RSum_ok [120] (by decide)
  have hT := Text48_ok (P := [[r2]]) (fun p hp => okp3.may hp) (by decide)
  have hR := Read_ok okp3 (fun r hr => by rw [List.mem_singleton.1 hr]; rfl) (by decide)
  have hA := All48B_ok [[r1, r2]] (by decide) (by decide)
  unfold g_law49_awake
  rw [hold1, Option.bind_some]
  simp only []
  rw [hold2, Option.bind_some]
  simp only []
  rw [forget, Option.bind_some, hS, Option.bind_some]
  simp only []
  rw [hB, Option.bind_some, size1, Option.bind_some, hT, Option.bind_some]
  simp only []
  rw [hR, Option.bind_some]
  have e1 : (bodyV [r2]).1 = ([120] : List UInt8) := rfl
  have e2 : (bodyV [r2]).2 = true := rfl
  rw [e1, e2]
  simp only [decide_true, beq_self_eq_true, Bool.and_self, cond_true, Option.bind_some]
  rw [held, Option.bind_some]
  have d1 : decide ((([2] : List Int).length : Int) = 1) = true := rfl
  rw [d1]
  simp only [beq_self_eq_true, Bool.and_self, cond_true]
  rw [hA]
  rfl
theorem Ndb_L3 (l : List Act) (s : List UInt8) (hs : s.length ≤ 1500) {Q : List (List Row)} {e : Int} (hc : (e ≠ 0 ∧ Q = []) ∨ (e = 0 ∧ (∀ p ∈ Q, mayB p = true) ∧ textP Q = s ∧ SumsOK Q)) : Comes (step_law49_NodedbTexts l s) (.L3 e Q.flatten 0 Q) true := by
  have hmay : ∀ p ∈ Q, mayB p = true := by
    rcases hc with ⟨_, rfl⟩ | ⟨_, h, _⟩
    · exact fun p hp => nomatch hp
    · exact h
  have hlen : Q.flatten.length ≤ 1500 ∧ Q.length ≤ 1500 := by
    rcases hc with ⟨_, rfl⟩ | ⟨_, h, ht, _⟩
    · exact ⟨by simp, by simp⟩
    · obtain ⟨r1, r2⟩ := text_rows Q h
      rw [ht] at r1 r2
      exact ⟨by omega, by omega⟩
  have hsum : SumsOK Q := by
    rcases hc with ⟨_, rfl⟩ | ⟨_, _, _, h⟩
    · exact fun r hr => nomatch hr
    · exact h
  have hb := body_le hmay
  refine Comes.upto (step := step_law49_NodedbTexts l s) (fun i => .L3 e Q.flatten (i : Int) Q) Q.flatten.length ?_ ?_
  · intro i hi
    have hm := idx_mem Q.flatten hi
    simp only [step_law49_NodedbTexts]
    rw [decide_eq_true (by omega), cond_true, gO_pos (by omega), RSum_ok _ (hb _ hm), Option.bind_some, gO_pos (by omega), hsum _ hm, beq_self_eq_true, Bool.not_true, cond_false, gO_pos (by unfold inI; omega)]
    rfl
  · refine Comes.stop ?_
    simp only [step_law49_NodedbTexts]
    rw [decide_eq_false (by omega), cond_false, Text48_ok hmay (by omega), Option.bind_some, awake49_ok, Option.bind_some]
    rcases hc with ⟨h0, rfl⟩ | ⟨rfl, _, ht, _⟩
    · rw [decide_eq_false h0]; rfl
    · rw [ht]
      simp
theorem Ndb_L1 (l : List Act) (s : List UInt8) (hs : s.length ≤ 1500) : ∀ (m i : Nat) (P : List (List Row)), m + i = min l.length 30 → OKP P → SumsOK P → P.flatten.length ≤ i → Comes (step_law49_NodedbTexts l s) (.L1 (i : Int) P) true
  | 0, i, P, hi, h, hS, hl => by
    have hpl := pages_le h.ne
    have hc : (decide ((i : Int) < (l.length : Int)) && decide ((i : Int) < 30)) = false := by
      rw [Bool.and_eq_false_iff, decide_eq_false_iff_not, decide_eq_false_iff_not]; omega
    have hT := Text48_ok (fun p hp => h.may hp) (show P.length ≤ 100000000 by omega)
    have hR := Read_ok h hS (by omega)
    have hA := All48B_ok P (by omega) (by omega)
    obtain ⟨Q, e, hY, hc2⟩ := Read_any s (by omega)
    have hmayQ : Q.length ≤ 1000000000 ∧ Q.flatten.length ≤ 1000000000 := by
      rcases hc2 with ⟨_, rfl⟩ | ⟨_, hm, ht, _⟩
      · exact ⟨by simp, by simp⟩
      · obtain ⟨r1, r2⟩ := text_rows Q hm
        rw [ht] at r1 r2
        exact ⟨by omega, by omega⟩
    have hAQ := All48B_ok Q hmayQ.1 hmayQ.2
    refine Comes.next ?_ (Ndb_L3 l s hs hc2)
    simp only [step_law49_NodedbTexts]
    rw [hc, cond_false, hT, Option.bind_some]
    simp only []
    rw [hR, Option.bind_some]
    simp only [decide_true, Bool.not_true, Bool.or_self, beq_self_eq_true, cond_true]
    rw [hA, Option.bind_some, Option.bind_some, RSame_ok _ _ (by omega) (by omega), beq_self_eq_true, Option.bind_some, Bool.not_true, Bool.or_self, cond_false, hY, Option.bind_some]
    simp only []
    rw [hAQ]
    rfl
  | m + 1, i, P, hi, h, hS, hl => by
    have hc : (decide ((i : Int) < (l.length : Int)) && decide ((i : Int) < 30)) = true := by
      rw [Bool.and_eq_true, decide_eq_true_eq, decide_eq_true_eq]; omega
    have hil : i < l.length := by omega
    by_cases hb : 200 < (idx l (i : Int)).fS.length
    · refine Comes.stop ?_
      simp only [step_law49_NodedbTexts]
      rw [hc, cond_true, gO_pos (by omega), decide_eq_true (by omega), cond_true, awake49_ok]; rfl
    · have nx : ∀ Q, OKP Q → SumsOK Q → Q.flatten.length ≤ i + 1 → Comes (step_law49_NodedbTexts l s) (.J2 (i : Int) Q) true := fun Q hQ hq hql => by
        refine Comes.next (c' := .L1 ((i + 1 : Nat) : Int) Q) ?_ (Ndb_L1 l s hs m (i + 1) Q (by omega) hQ hq hql)
        simp only [step_law49_NodedbTexts]
        rw [gO_pos (by unfold inI; omega)]
        rfl
      obtain ⟨Q, e, hH, hh⟩ := Hold_ok h hS (by omega) (idx l (i : Int)).fEpoch (idx l (i : Int)).fS
      by_cases he : e = 0
      · obtain ⟨q1, q2, q3⟩ := hh he
        refine Comes.next ?_ (nx Q q1 q3 (by omega))
        simp only [step_law49_NodedbTexts]
        rw [hc, cond_true, gO_pos (by omega), decide_eq_false (by omega), cond_false, gO_pos (by omega), gO_pos (by omega), hH, Option.bind_some, decide_eq_true he]
        rfl
      · refine Comes.next ?_ (nx P h hS (by omega))
        simp only [step_law49_NodedbTexts]
        rw [hc, cond_true, gO_pos (by omega), decide_eq_false (by omega), cond_false, gO_pos (by omega), gO_pos (by omega), hH, Option.bind_some, decide_eq_false he]
        rfl
theorem NodedbTexts_true (l : List Act) (s : List UInt8) : g_law49_NodedbTexts l s = some true := by
  refine theC_eq ?_
  by_cases h : 1500 < s.length
  · refine Comes.stop ?_
    simp only [step_law49_NodedbTexts]
    rw [decide_eq_true (by omega), cond_true, awake49_ok]; rfl
  · refine Comes.next (c' := .L1 ((0 : Nat) : Int) []) ?_ (Ndb_L1 l s (by omega) (min l.length 30) 0 [] rfl okp_nil (fun r hr => nomatch hr) (Nat.le_refl _))
    simp only [step_law49_NodedbTexts]
    rw [decide_eq_false (by omega), cond_false]
    rfl
end Go.Proofs.Ythpgedneniekmaa.K
