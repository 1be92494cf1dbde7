/- Package rlp: what it reads is what the reference reads. -/
import Derived.Test.YtoeppofkmcdknaaCPRlp4
namespace Go.Proofs.Ytoeppofkmcdknaa.K
open Go Go.RowKit
set_option linter.unusedSimpArgs false
set_option linter.unusedVariables false
theorem take_add' {α : Type} (s : List α) (k v : Nat) : s.take k ++ (s.drop k).take v = s.take (k + v) := by rw [← List.take_add]
theorem lvN_val : ∀ (l : List UInt8) (v w : Nat), lvN v l = some w → w = l.foldl (fun a b => a * 256 + b.toNat) v
  | [], v, w, h => by simp only [lvN] at h; cases h; rfl
  | b :: r, v, w, h => by
    simp only [lvN] at h
    split at h
    · exact lvN_val r _ w h
    · cases h
theorem bigN_val : ∀ (n : Nat) (l : List UInt8), l.length = n → (l = [] ∨ (l.getD 0 0).toNat ≠ 0) → bigN (valN l) = l
  | 0, l, h, _ => by
    have : l = [] := List.length_eq_zero_iff.1 h
    subst this; exact bigN_zero
  | n + 1, l, h, h0 => by
    rcases List.eq_nil_or_concat l with e | ⟨L, b, e⟩
    · subst e; simp at h
    · rw [List.concat_eq_append] at e
      subst e
      have hl : L.length = n := by simpa using h
      have h0' : ((L ++ [b]).getD 0 0).toNat ≠ 0 := h0.resolve_left (by simp)
      have hL : L = [] ∨ (L.getD 0 0).toNat ≠ 0 := by
        cases L with
        | nil => exact .inl rfl
        | cons x r => exact .inr (by simpa using h0')
      have ih := bigN_val n L hl hL
      have hb : b.toNat < 256 := UInt8.toNat_lt _
      rw [valN_snoc]
      have ne : valN L * 256 + b.toNat ≠ 0 := by
        intro e
        have e1 : valN L = 0 := by omega
        have e2 : b.toNat = 0 := by omega
        rw [e1, bigN_zero] at ih
        subst ih
        exact h0' (by simpa using e2)
      rw [bigN_pos ne, show (valN L * 256 + b.toNat) / 256 = valN L by omega, show (valN L * 256 + b.toNat) % 256 = b.toNat by omega, ih, UInt8.ofNat_toNat]
theorem lenS_hd {s : List UInt8} {n0 v k : Nat} (l : Bool) (h0 : 0 < s.length) (hf : (s.getD 0 0).toNat = hdC l + n0) (h : lenS s n0 = .inl ((v : Int), (k : Int))) : s.take k = hd l v := by
  have hlt : (s.getD 0 0).toNat < 256 := UInt8.toNat_lt _
  obtain ⟨x, r, rfl⟩ : ∃ x r, s = x :: r := by
    cases s with
    | nil => simp at h0
    | cons x r => exact ⟨x, r, rfl⟩
  have hx : x.toNat = hdC l + n0 := by simpa using hf
  have hx' : x = UInt8.ofNat (hdC l + n0) := by rw [← hx, UInt8.ofNat_toNat]
  have hxl : x.toNat < 256 := UInt8.toNat_lt _
  unfold lenS at h
  split at h
  · rename_i h55
    simp only [Sum.inl.injEq, Prod.mk.injEq] at h
    have e1 : v = n0 := by omega
    have e2 : k = 1 := by omega
    subst e1 e2
    unfold hd
    rw [if_pos (by omega), Nat.mod_eq_of_lt (by omega), ← hx']; rfl
  · rename_i h55
    split at h
    · cases h
    · rename_i hlen
      split at h
      · cases h
      · rename_i hnz
        cases hl : lvN 0 (((x :: r).drop 1).take (n0 - 55)) with
        | none => rw [hl] at h; cases h
        | some w =>
          rw [hl] at h
          unfold lenR at h
          simp only at h
          split at h
          · rename_i hw
            simp only [Sum.inl.injEq, Prod.mk.injEq] at h
            have e1 : w = v := by omega
            have e2 : k = 1 + (n0 - 55) := by omega
            subst e1 e2
            have e3 := lvN_val _ _ _ hl
            have hd1 : (x :: r).drop 1 = r := rfl
            rw [hd1] at e3
            have hrl : n0 - 55 ≤ r.length := by simp at hlen; omega
            have hnz' : (r.getD 0 0).toNat ≠ 0 := by simpa using hnz
            have e4 : bigN w = r.take (n0 - 55) := by
              have := bigN_val _ (r.take (n0 - 55)) rfl (.inr (by
                have : (r.take (n0 - 55)).getD 0 0 = r.getD 0 0 := by simp [List.getD_eq_getElem?_getD, List.getElem?_take, show 0 < n0 - 55 by omega]
                rw [this]; exact hnz'))
              rw [show valN (r.take (n0 - 55)) = w from e3.symm] at this
              exact this
            unfold hd
            rw [if_neg (by omega), e4, List.length_take, Nat.min_eq_left hrl, show hdC l + 55 + (n0 - 55) = hdC l + n0 by omega, Nat.mod_eq_of_lt (by omega), ← hx', Nat.add_comm 1, List.take_succ_cons]
          · cases h
theorem lenS_inl {s : List UInt8} {n0 : Nat} (h0 : 0 < s.length) (hn : n0 ≤ 63) {a b : Int} (h : lenS s n0 = .inl (a, b)) : ∃ v k : Nat, a = (v : Int) ∧ b = (k : Int) ∧ 1 ≤ k ∧ k ≤ s.length ∧ v < 2 ^ 40 := by
  unfold lenS at h
  split at h
  · cases h
    exact ⟨n0, 1, rfl, rfl, by omega, by omega, by omega⟩
  · split at h
    · cases h
    · split at h
      · cases h
      · cases hl : lvN 0 ((s.drop 1).take (n0 - 55)) with
        | none => rw [hl] at h; cases h
        | some v =>
          rw [hl] at h
          unfold lenR at h
          simp only at h
          split at h
          · cases h
            exact ⟨v, 1 + (n0 - 55), rfl, rfl, by omega, by omega, lv_bound _ 0 v (by omega) hl⟩
          · cases h
theorem lenS_inr {s : List UInt8} {n0 : Nat} {e : Int} (h : lenS s n0 = .inr e) : e ≠ 0 := by
  unfold lenS at h
  split at h
  · cases h
  · split at h
    · cases h; decide
    · split at h
      · cases h; decide
      · cases hl : lvN 0 ((s.drop 1).take (n0 - 55)) with
        | none => rw [hl] at h; cases h; decide
        | some v =>
          rw [hl] at h
          unfold lenR at h
          simp only at h
          split at h
          · cases h
          · cases h; decide
theorem rread_len (f : List UInt8 → Int → Int → Option (Item × Int × Int × Int)) (s : List UInt8) (d l : Nat) (n0 : Nat) (hd : d ≤ 64) (hl1 : 1 ≤ l) (hl2 : l ≤ 4096) (h0 : 0 < s.length) (hl : s.length ≤ 2 ^ 40) (hb : 128 ≤ (s.getD 0 0).toNat) (hm : (s.getD 0 0).toNat % 64 = n0) (r : Item × Int × Int × Int)
    (hJ : ∀ v k : Nat, lenS s n0 = .inl ((v : Int), (k : Int)) → Comes (step_ref05_Read f s (d : Int) (l : Int)) (.J1 (v : Int) (k : Int)) r) (hE : ∀ e, lenS s n0 = .inr e → r = (noI, 0, 0, e)) : Comes (step_ref05_Read f s (d : Int) (l : Int)) .S r := by
  have hne : s ≠ [] := List.length_pos_iff.1 h0
  have ht : (((idx s (0 : Int)).toNat : Nat) : Int).tmod 64 = (n0 : Int) := by
    rw [get0 h0, Int.tmod_eq_emod_of_nonneg (by omega)]; omega
  have hn : n0 ≤ 63 := by omega
  by_cases h1 : n0 ≤ 55
  · have hS : lenS s n0 = .inl ((n0 : Int), ((1 : Nat) : Int)) := by unfold lenS; rw [if_pos h1]; rfl
    refine Comes.next ?_ (hJ n0 1 hS)
    simp only [step_ref05_Read, ht]
    rw [decide_eq_false (by omega), cond_false, decide_eq_false (by omega), cond_false, gO_pos (by unfold inI; omega), beq_nil hne, cond_false, gO_pos (by omega), get0 h0, decide_eq_false (by omega), cond_false, decide_eq_false (by omega), cond_false]
    rfl
  · have e55 : (n0 : Int) - 55 = ((n0 - 55 : Nat) : Int) := by omega
    by_cases h2 : s.length < 1 + (n0 - 55)
    · have hS : lenS s n0 = .inr 5 := by unfold lenS; rw [if_neg h1, if_pos h2]
      rw [hE 5 hS]
      refine Comes.stop ?_
      simp only [step_ref05_Read, ht, e55]
      rw [decide_eq_false (by omega), cond_false, decide_eq_false (by omega), cond_false, gO_pos (by unfold inI; omega), beq_nil hne, cond_false, gO_pos (by omega), get0 h0, decide_eq_false (by omega), cond_false, decide_eq_true (by omega), cond_true, gO_pos (by unfold inI; omega), gO_pos (by unfold inI; omega), decide_eq_true (by omega), cond_true]
      rfl
    · by_cases h3 : (s.getD 1 0).toNat = 0
      · have hS : lenS s n0 = .inr 6 := by unfold lenS; rw [if_neg h1, if_neg h2, if_pos h3]
        rw [hE 6 hS]
        refine Comes.stop ?_
        simp only [step_ref05_Read, ht, e55]
        rw [decide_eq_false (by omega), cond_false, decide_eq_false (by omega), cond_false, gO_pos (by unfold inI; omega), beq_nil hne, cond_false, gO_pos (by omega), get0 h0, decide_eq_false (by omega), cond_false, decide_eq_true (by omega), cond_true, gO_pos (by unfold inI; omega), gO_pos (by unfold inI; omega), decide_eq_false (by omega), cond_false, gO_pos (by omega), get1 (by omega), decide_eq_true (by omega), cond_true]
        rfl
      · have hS : lenS s n0 = lenR (n0 - 55) (lvN 0 ((s.drop 1).take (n0 - 55))) := by unfold lenS; rw [if_neg h1, if_neg h2, if_neg h3]
        have key := rlen_L2 f s (d : Int) (l : Int) (n0 - 55) (by rw [ht]; omega) (by omega) (by omega) hl r
          (fun v hv h55 he => hJ v (1 + (n0 - 55)) (by rw [hS, he]; unfold lenR; simp only; rw [if_pos h55]))
          (fun he => hE 5 (by rw [hS, he]; rfl)) (fun v he h55 => hE 6 (by rw [hS, he]; unfold lenR; simp only; rw [if_neg h55])) (n0 - 55) 0 0 rfl (by decide) (by rw [List.drop_zero])
        refine Comes.next ?_ key
        simp only [step_ref05_Read, ht, e55]
        rw [decide_eq_false (by omega), cond_false, decide_eq_false (by omega), cond_false, gO_pos (by unfold inI; omega), beq_nil hne, cond_false, gO_pos (by omega), get0 h0, decide_eq_false (by omega), cond_false, decide_eq_true (by omega), cond_true, gO_pos (by unfold inI; omega), gO_pos (by unfold inI; omega), decide_eq_false (by omega), cond_false, gO_pos (by omega), get1 (by omega), decide_eq_false (by omega), cond_false]
        rfl
def Ag (n : Nat) (s : List UInt8) (d c : Nat) : Prop :=
  (∃ (x : Item) (k : Nat), 1 ≤ k ∧ k ≤ s.length ∧ c + icnt x ≤ 4096 ∧ RT (n - 1) x ∧ ienc x = s.take k ∧ ∀ m, n ≤ m → rec_rlp_counter_get m s (d : Int) ⟨(c : Int)⟩ = some (.inl (x, (k : Int)), ⟨((c + icnt x : Nat) : Int)⟩) ∧ rec_ref05_Read m s (d : Int) ((4096 - c : Nat) : Int) = some (x, (k : Int), ((4096 - (c + icnt x) : Nat) : Int), 0)) ∨
  (∃ (e : Int) (c' : counter), e ≠ 0 ∧ ∀ m, n ≤ m → rec_rlp_counter_get m s (d : Int) ⟨(c : Int)⟩ = some (.inr e, c') ∧ rec_ref05_Read m s (d : Int) ((4096 - c : Nat) : Int) = some (noI, 0, 0, e))
theorem ag_loop (n : Nat) (s : List UInt8) (d : Nat) (hd64 : d ≤ 64) (c0 : counter) (l0 : Int) (v kk : Nat) (hkv : kk + v ≤ 2 ^ 41) (ih : ∀ (t : List UInt8) (c : Nat), c ≤ 4096 → t.length ≤ 2 ^ 40 → Ag n t (d + 1) c) : ∀ (N : Nat) (inn : List UInt8) (acc : List Item) (c : Nat), inn.length ≤ N → inn.length ≤ 2 ^ 40 → c ≤ 4096 → acc.length ≤ c →
    (∃ l : List Item, c + icnts l ≤ 4096 ∧ (∀ y ∈ l, RT (n - 1) y) ∧ iencs l = inn ∧ ∀ m, n ≤ m → Comes (step_rlp_counter_get (rec_rlp_counter_get m) s (d : Int) c0) (.L2 (v : Int) (kk : Int) inn (c : Int) acc) (.inl (⟨true, [], acc ++ l⟩, ((kk + v : Nat) : Int)), ⟨((c + icnts l : Nat) : Int)⟩) ∧
      Comes (step_ref05_Read (rec_ref05_Read m) s (d : Int) l0) (.L3 ((4096 - c : Nat) : Int) (v : Int) (kk : Int) inn acc) (⟨true, [], acc ++ l⟩, ((kk + v : Nat) : Int), ((4096 - (c + icnts l) : Nat) : Int), 0)) ∨
    (∃ (e : Int) (c' : counter), e ≠ 0 ∧ ∀ m, n ≤ m → Comes (step_rlp_counter_get (rec_rlp_counter_get m) s (d : Int) c0) (.L2 (v : Int) (kk : Int) inn (c : Int) acc) (.inr e, c') ∧
      Comes (step_ref05_Read (rec_ref05_Read m) s (d : Int) l0) (.L3 ((4096 - c : Nat) : Int) (v : Int) (kk : Int) inn acc) (noI, 0, 0, e)) := by
  intro N
  induction N with
  | zero =>
    intro inn acc c hN hl hc ha
    have : inn = [] := List.length_eq_zero_iff.1 (by omega)
    subst this
    refine .inl ⟨[], by simp only [icnts]; omega, (fun y hy => by simp at hy), (by simp only [iencs]), fun m hm => ⟨Comes.stop ?_, Comes.stop ?_⟩⟩
    · simp only [step_rlp_counter_get, icnts, Nat.add_zero, List.append_nil]
      rw [show (!(([] : List UInt8) == [])) = false from rfl, cond_false, gO_pos (by unfold inI; omega), show (kk : Int) + (v : Int) = ((kk + v : Nat) : Int) by omega]
    · simp only [step_ref05_Read, icnts, Nat.add_zero, List.append_nil]
      rw [show (!(([] : List UInt8) == [])) = false from rfl, cond_false, gO_pos (by unfold inI; omega), show (kk : Int) + (v : Int) = ((kk + v : Nat) : Int) by omega]
  | succ N iN =>
    intro inn acc c hN hl hc ha
    by_cases hne : inn = []
    · subst hne
      exact iN [] acc c (by simp) hl hc ha
    · have hd1 : (d : Int) + 1 = ((d + 1 : Nat) : Int) := by omega
      rcases ih inn c hc hl with ⟨x, k, k1, k2, k3, k4, k5, hx⟩ | ⟨e, c', he, hx⟩
      · have hx1 := icnt_pos x
        have hrest : sub inn (k : Int) (inn.length : Int) = inn.drop k := by
          unfold sub; rw [Int.toNat_natCast, List.take_of_length_le (by rw [List.length_drop]; omega)]
        have hrl : (inn.drop k).length ≤ N := by rw [List.length_drop]; omega
        have g1 : ∀ m, n ≤ m → step_rlp_counter_get (rec_rlp_counter_get m) s (d : Int) c0 (.L2 (v : Int) (kk : Int) inn (c : Int) acc) = some (.inl (.L2 (v : Int) (kk : Int) (inn.drop k) ((c + icnt x : Nat) : Int) (acc ++ [x]))) := by
          intro m hm
          simp only [step_rlp_counter_get]
          rw [beq_nil hne, Bool.not_false, cond_true, gO_pos (by unfold inI; omega), hd1, (hx m hm).1, Option.bind_some]
          simp only
          rw [gO_pos (by simp only [List.length_singleton]; omega), gO_pos (by omega), hrest]
        have g2 : ∀ m, n ≤ m → step_ref05_Read (rec_ref05_Read m) s (d : Int) l0 (.L3 ((4096 - c : Nat) : Int) (v : Int) (kk : Int) inn acc) = some (.inl (.L3 ((4096 - (c + icnt x) : Nat) : Int) (v : Int) (kk : Int) (inn.drop k) (acc ++ [x]))) := by
          intro m hm
          simp only [step_ref05_Read]
          rw [beq_nil hne, Bool.not_false, cond_true, gO_pos (by unfold inI; omega), hd1, (hx m hm).2, Option.bind_some]
          rw [show (!decide ((0 : Int) = 0)) = false from rfl, cond_false, gO_pos (by simp only [List.length_singleton]; omega), gO_pos (by show 0 ≤ (k : Int) ∧ (k : Int) ≤ (inn.length : Int) ∧ _; omega), hrest]
        rcases iN (inn.drop k) (acc ++ [x]) (c + icnt x) hrl (by rw [List.length_drop]; omega) k3 (by rw [List.length_append, List.length_singleton]; omega) with ⟨l, l1, l3, l4, l2⟩ | ⟨e, c', he, l2⟩
        · refine .inl ⟨x :: l, by simp only [icnts]; omega, (fun y hy => (List.mem_cons.1 hy).elim (fun e => e ▸ k4) (l3 y)), (by simp only [iencs]; rw [k5, l4, List.take_append_drop]), fun m hm => ?_⟩
          have := l2 m hm
          rw [List.append_assoc, List.singleton_append] at this
          simp only [icnts, ← Nat.add_assoc]
          exact ⟨Comes.next (g1 m hm) this.1, Comes.next (g2 m hm) this.2⟩
        · exact .inr ⟨e, c', he, fun m hm => ⟨Comes.next (g1 m hm) (l2 m hm).1, Comes.next (g2 m hm) (l2 m hm).2⟩⟩
      · refine .inr ⟨e, c', he, fun m hm => ⟨Comes.stop ?_, Comes.stop ?_⟩⟩
        · simp only [step_rlp_counter_get]
          rw [beq_nil hne, Bool.not_false, cond_true, gO_pos (by unfold inI; omega), hd1, (hx m hm).1, Option.bind_some]
        · simp only [step_ref05_Read]
          rw [beq_nil hne, Bool.not_false, cond_true, gO_pos (by unfold inI; omega), hd1, (hx m hm).2, Option.bind_some]
          simp only
          rw [decide_eq_false he]
          rfl
theorem agree : ∀ (n : Nat) (s : List UInt8) (d c : Nat), 0 < n → d + n = 66 → c ≤ 4096 → s.length ≤ 2 ^ 40 → Ag n s d c
  | 0, _, _, _, h, _, _, _ => by omega
  | n + 1, s, d, c, _, hd, hc, hl => by
    have up : ∀ {R : ((Item × Int) ⊕ Int) × counter} {Q : Item × Int × Int × Int}, (∀ m, n ≤ m → Comes (step_rlp_counter_get (rec_rlp_counter_get m) s (d : Int) ⟨(c : Int)⟩) .S R ∧ Comes (step_ref05_Read (rec_ref05_Read m) s (d : Int) ((4096 - c : Nat) : Int)) .S Q) →
        ∀ m, n + 1 ≤ m → rec_rlp_counter_get m s (d : Int) ⟨(c : Int)⟩ = some R ∧ rec_ref05_Read m s (d : Int) ((4096 - c : Nat) : Int) = some Q := by
      intro R Q h m hm
      obtain ⟨k, rfl⟩ : ∃ k, m = k + 1 := ⟨m - 1, by omega⟩
      exact ⟨theC_eq (h k (by omega)).1, theC_eq (h k (by omega)).2⟩
    have rtT : d ≤ 64 → ∀ t : List UInt8, RT n ⟨false, t, []⟩ := by
      intro h t
      obtain ⟨j, rfl⟩ : ∃ j, n = j + 1 := ⟨n - 1, by omega⟩
      exact ⟨fun _ => rfl, fun h => by simp at h, fun y hy => by simp at hy⟩
    by_cases h65 : d = 65
    · subst h65
      refine .inr ⟨17, ⟨((c + 1 : Nat) : Int)⟩, by decide, up fun m hm => ⟨Comes.stop ?_, Comes.stop ?_⟩⟩
      · have : g_rlp_counter_one ((65 : Nat) : Int) ⟨(c : Int)⟩ = some (.inr 17, ⟨((c + 1 : Nat) : Int)⟩) := by
          unfold g_rlp_counter_one
          simp only
          rw [gO_pos (by unfold inI; omega)]
          rfl
        simp only [step_rlp_counter_get, this, Option.bind_some]
      · simp only [step_ref05_Read]
        rfl
    · have hd64 : d ≤ 64 := by omega
      by_cases hc6 : c = 4096
      · refine .inr ⟨4, ⟨((c + 1 : Nat) : Int)⟩, by decide, up fun m hm => ⟨Comes.stop ?_, Comes.stop ?_⟩⟩
        · simp only [step_rlp_counter_get, one_big (d := d) hd64 hc6, Option.bind_some]
        · simp only [step_ref05_Read]
          rw [decide_eq_false (by omega), cond_false, decide_eq_true (by omega), cond_true]
          rfl
      · have h1 := one_ok (d := d) (c := c) hd64 (by omega)
        by_cases hne : s = []
        · subst hne
          refine .inr ⟨5, ⟨((c + 1 : Nat) : Int)⟩, by decide, up fun m hm => ⟨Comes.stop ?_, Comes.stop ?_⟩⟩
          · simp only [step_rlp_counter_get, h1, Option.bind_some]
            rfl
          · simp only [step_ref05_Read]
            rw [decide_eq_false (by omega), cond_false, decide_eq_false (by omega), cond_false, gO_pos (by unfold inI; omega)]
            rfl
        · have h0 : 0 < s.length := List.length_pos_iff.2 hne
          by_cases hb : (s.getD 0 0).toNat < 128
          · -- one byte
            have hcnt : ∀ t, icnt (⟨false, t, []⟩ : Item) = 1 := by intro t; rw [icnt_eq]; rfl
            have e1 : sub s 0 1 = s.take 1 := by unfold sub; simp
            have e2 : (s.take 1).length = 1 ∧ ((s.take 1).getD 0 0).toNat < 128 := by
              refine ⟨by rw [List.length_take]; omega, ?_⟩
              have : (s.take 1).getD 0 0 = s.getD 0 0 := by simp [List.getD_eq_getElem?_getD, List.getElem?_take]
              rw [this]; exact hb
            refine .inl ⟨⟨false, sub s 0 1, []⟩, 1, by omega, by omega, by rw [hcnt]; omega, rtT hd64 _, by rw [ienc_eq, e1]; simp only; rw [if_pos trivial, if_pos e2], up fun m hm => ⟨Comes.stop ?_, Comes.stop ?_⟩⟩
            · simp only [step_rlp_counter_get, h1, Option.bind_some, beq_nil hne, Bool.not_false, must_true]
              rw [gO_pos (by omega), get0 h0, decide_eq_true (by omega), cond_true, gO_pos (by omega), hcnt]
              rfl
            · simp only [step_ref05_Read]
              rw [decide_eq_false (by omega), cond_false, decide_eq_false (by omega), cond_false, gO_pos (by unfold inI; omega), beq_nil hne, cond_false, gO_pos (by omega), get0 h0, decide_eq_true (by omega), cond_true, gO_pos (by omega), hcnt,
                show ((4096 - c : Nat) : Int) - 1 = ((4096 - (c + 1) : Nat) : Int) by omega]
              rfl
          · have hb256 : (s.getD 0 0).toNat < 256 := UInt8.toNat_lt _
            obtain ⟨first, n0, hfirst, hn0, hm, hsel⟩ : ∃ first n0 : Nat, (s.getD 0 0).toNat = first + n0 ∧ n0 ≤ 63 ∧ (s.getD 0 0).toNat % 64 = n0 ∧ (bif decide ((192 : Int) ≤ (((s.getD 0 0).toNat : Nat) : Int)) then some (192 : Int) else some 128) = some (first : Int) := by
              by_cases h192 : 192 ≤ (s.getD 0 0).toNat
              · exact ⟨192, (s.getD 0 0).toNat - 192, by omega, by omega, by omega, by rw [decide_eq_true (by omega)]; rfl⟩
              · exact ⟨128, (s.getD 0 0).toNat - 128, by omega, by omega, by omega, by rw [decide_eq_false (by omega)]; rfl⟩
            have hL := glen_ok s first n0 hfirst h0 hn0 hl
            have hlI : ((4096 - c : Nat) : Int) - 1 = ((4096 - (c + 1) : Nat) : Int) := by omega
            -- what get does up to the length
            have gS : ∀ m, step_rlp_counter_get (rec_rlp_counter_get m) s (d : Int) ⟨(c : Int)⟩ .S = (match lenS s n0 with
                | .inl v23 =>
                  gO (inI ((s.length : Int) - v23.2)) ((g_rlp_must (decide (v23.1 ≤ (s.length : Int) - v23.2)) 5).bind fun xx => match xx with
                    | .inl _ => gO (inI (v23.2 + v23.1)) (gO (0 ≤ v23.2 ∧ v23.2 ≤ v23.2 + v23.1 ∧ v23.2 + v23.1 ≤ (s.length : Int)) (
                        bif !decide ((192 : Int) ≤ (((s.getD 0 0).toNat : Nat) : Int)) then
                          gO ((!decide (v23.1 = 1)) = false → (0 : Int) ≤ 0 ∧ 0 < ((sub s v23.2 (v23.2 + v23.1)).length : Int)) ((g_rlp_must ((!decide (v23.1 = 1)) || decide ((128 : Int) ≤ (((idx (sub s v23.2 (v23.2 + v23.1)) 0).toNat : Nat) : Int))) 6).bind fun xx => match xx with
                            | .inl _ => (g_rlp_Text (sub s v23.2 (v23.2 + v23.1))).bind fun x39 => gO (inI (v23.2 + v23.1)) (some (.inr (.inl (x39, v23.2 + v23.1), ⟨((c + 1 : Nat) : Int)⟩)))
                            | .inr e37 => some (.inr (.inr e37, ⟨((c + 1 : Nat) : Int)⟩)))
                        else some (.inl (.L2 v23.1 v23.2 (sub s v23.2 (v23.2 + v23.1)) ((c + 1 : Nat) : Int) []))))
                    | .inr e28 => some (.inr (.inr e28, ⟨((c + 1 : Nat) : Int)⟩)))
                | .inr e22 => some (.inr (.inr e22, ⟨((c + 1 : Nat) : Int)⟩))) := by
              intro m
              simp only [step_rlp_counter_get, h1, Option.bind_some, beq_nil hne, Bool.not_false, must_true]
              rw [gO_pos (by omega), get0 h0, decide_eq_false (by omega), cond_false, gO_pos (by omega), hsel, Option.bind_some, hL, Option.bind_some]
              rfl
            cases hS : lenS s n0 with
            | inr e =>
              refine .inr ⟨e, ⟨((c + 1 : Nat) : Int)⟩, lenS_inr hS, up fun m hm' => ⟨Comes.stop ?_, rread_len _ s d (4096 - c) n0 hd64 (by omega) (by omega) h0 hl (by omega) hm _ (fun v k h => by rw [hS] at h; cases h) (fun e' h => by rw [hS] at h; cases h; rfl)⟩⟩
              rw [gS, hS]
            | inl p =>
              obtain ⟨a, b⟩ := p
              obtain ⟨v, k, rfl, rfl, k1, k2, hv⟩ := lenS_inl h0 hn0 hS
              have rd : ∀ m (r : Item × Int × Int × Int), Comes (step_ref05_Read (rec_ref05_Read m) s (d : Int) ((4096 - c : Nat) : Int)) (.J1 (v : Int) (k : Int)) r → Comes (step_ref05_Read (rec_ref05_Read m) s (d : Int) ((4096 - c : Nat) : Int)) .S r := by
                intro m r h
                refine rread_len _ s d (4096 - c) n0 hd64 (by omega) (by omega) h0 hl (by omega) hm r (fun v' k' h' => ?_) (fun e' h' => by rw [hS] at h'; cases h')
                rw [hS] at h'
                simp only [Sum.inl.injEq, Prod.mk.injEq] at h'
                rw [← h'.1, ← h'.2]; exact h
              by_cases hbig : s.length < k + v
              · refine .inr ⟨5, ⟨((c + 1 : Nat) : Int)⟩, by decide, up fun m hm' => ⟨Comes.stop ?_, rd m _ (Comes.stop ?_)⟩⟩
                · rw [gS, hS]
                  simp only
                  rw [gO_pos (by unfold inI; omega), decide_eq_false (by omega)]
                  rfl
                · simp only [step_ref05_Read]
                  rw [gO_pos (by unfold inI; omega), decide_eq_true (by omega), cond_true]
                  rfl
              · have ekv : (k : Int) + (v : Int) = ((k + v : Nat) : Int) := by omega
                have hsub : sub s (k : Int) ((k : Int) + (v : Int)) = (s.drop k).take v := by
                  unfold sub; rw [ekv, show (((k + v : Nat) : Int) - (k : Int)).toNat = v by omega, Int.toNat_natCast]
                have htl : (sub s (k : Int) ((k : Int) + (v : Int))).length = v := by
                  unfold sub
                  rw [List.length_take, List.length_drop]; omega
                have J1 : ∀ m, step_ref05_Read (rec_ref05_Read m) s (d : Int) ((4096 - c : Nat) : Int) (.J1 (v : Int) (k : Int)) = (bif !decide ((192 : Int) ≤ (((s.getD 0 0).toNat : Nat) : Int)) then
                    gO (decide ((v : Int) = 1) = true → (0 : Int) ≤ 0 ∧ 0 < ((sub s (k : Int) ((k : Int) + (v : Int))).length : Int)) (bif decide ((v : Int) = 1) && decide ((((idx (sub s (k : Int) ((k : Int) + (v : Int))) 0).toNat : Nat) : Int) < 128) then some (.inr (noI, 0, 0, 6))
                      else gO (inI ((k : Int) + (v : Int))) (some (.inr (⟨false, sub s (k : Int) ((k : Int) + (v : Int)), []⟩, (k : Int) + (v : Int), ((4096 - (c + 1) : Nat) : Int), 0))))
                    else some (.inl (.L3 ((4096 - (c + 1) : Nat) : Int) (v : Int) (k : Int) (sub s (k : Int) ((k : Int) + (v : Int))) []))) := by
                  intro m
                  simp only [step_ref05_Read]
                  rw [gO_pos (by unfold inI; omega), decide_eq_false (by omega), cond_false, gO_pos (by unfold inI; omega), gO_pos (by omega), get0 h0, hlI]
                  rfl
                have G1 : ∀ m, step_rlp_counter_get (rec_rlp_counter_get m) s (d : Int) ⟨(c : Int)⟩ .S = (bif !decide ((192 : Int) ≤ (((s.getD 0 0).toNat : Nat) : Int)) then
                          gO ((!decide ((v : Int) = 1)) = false → (0 : Int) ≤ 0 ∧ 0 < ((sub s (k : Int) ((k : Int) + (v : Int))).length : Int)) ((g_rlp_must ((!decide ((v : Int) = 1)) || decide ((128 : Int) ≤ (((idx (sub s (k : Int) ((k : Int) + (v : Int))) 0).toNat : Nat) : Int))) 6).bind fun xx => match xx with
                            | .inl _ => (g_rlp_Text (sub s (k : Int) ((k : Int) + (v : Int)))).bind fun x39 => gO (inI ((k : Int) + (v : Int))) (some (.inr (.inl (x39, (k : Int) + (v : Int)), ⟨((c + 1 : Nat) : Int)⟩)))
                            | .inr e37 => some (.inr (.inr e37, ⟨((c + 1 : Nat) : Int)⟩)))
                        else some (.inl (.L2 (v : Int) (k : Int) (sub s (k : Int) ((k : Int) + (v : Int))) ((c + 1 : Nat) : Int) []))) := by
                  intro m
                  rw [gS, hS]
                  simp only
                  rw [gO_pos (by unfold inI; omega), decide_eq_true (by omega), must_true, Option.bind_some]
                  simp only
                  rw [gO_pos (by unfold inI; omega), gO_pos (by omega)]
                by_cases h192 : 192 ≤ (s.getD 0 0).toNat
                · rcases ag_loop n s d hd64 ⟨(c : Int)⟩ ((4096 - c : Nat) : Int) v k (by omega) (fun t c hc ht => agree n t (d + 1) c (by omega) (by omega) hc ht) _ (sub s (k : Int) ((k : Int) + (v : Int))) [] (c + 1) (Nat.le_refl _) (by omega) (by omega) (by simp) with ⟨l, l1, l3, l4, l2⟩ | ⟨e, c', he, l2⟩
                  · have hcnt : c + icnt (⟨true, [], l⟩ : Item) = c + 1 + icnts l := by rw [icnt_eq]; show c + (1 + icnts l) = _; omega
                    have rtl : RT n ⟨true, [], l⟩ := by
                      obtain ⟨j, rfl⟩ : ∃ j, n = j + 1 := ⟨n - 1, by omega⟩
                      exact ⟨fun h => by simp at h, fun _ => rfl, l3⟩
                    have hh := lenS_hd true h0 (by show _ = 192 + n0; omega) hS
                    refine .inl ⟨⟨true, [], l⟩, k + v, by omega, by omega, by omega, rtl, by rw [ienc_eq]; simp only; rw [if_neg (by simp), l4, htl, ← hh, hsub, take_add'], up fun m hm' => ?_⟩
                    have := l2 m hm'
                    rw [List.nil_append] at this
                    rw [hcnt]
                    exact ⟨Comes.next (by rw [G1, decide_eq_true (by omega)]; rfl) this.1, rd m _ (Comes.next (by rw [J1, decide_eq_true (by omega)]; rfl) this.2)⟩
                  · exact .inr ⟨e, c', he, up fun m hm' => ⟨Comes.next (by rw [G1, decide_eq_true (by omega)]; rfl) (l2 m hm').1, rd m _ (Comes.next (by rw [J1, decide_eq_true (by omega)]; rfl) (l2 m hm').2)⟩⟩
                · by_cases hbad : v = 1 ∧ (idx (sub s (k : Int) ((k : Int) + (v : Int))) 0).toNat < 128
                  · refine .inr ⟨6, ⟨((c + 1 : Nat) : Int)⟩, by decide, up fun m hm' => ⟨Comes.stop ?_, rd m _ (Comes.stop ?_)⟩⟩
                    · rw [G1, decide_eq_false (by omega), Bool.not_false, cond_true, gO_pos (fun _ => by omega), decide_eq_true (by omega), decide_eq_false (by omega)]
                      rfl
                    · rw [J1, decide_eq_false (by omega), Bool.not_false, cond_true, gO_pos (fun _ => by omega), decide_eq_true (by omega), decide_eq_true (by omega)]
                      rfl
                  · have hcnt : ∀ t, icnt (⟨false, t, []⟩ : Item) = 1 := by intro t; rw [icnt_eq]; rfl
                    have hh := lenS_hd false h0 (by show _ = 128 + n0; omega) hS
                    have hbad' : ¬ ((sub s (k : Int) ((k : Int) + (v : Int))).length = 1 ∧ ((sub s (k : Int) ((k : Int) + (v : Int))).getD 0 0).toNat < 128) := by
                      rw [htl]; intro ⟨q1, q2⟩; exact hbad ⟨q1, by rw [get0 (by omega)]; exact q2⟩
                    refine .inl ⟨⟨false, sub s (k : Int) ((k : Int) + (v : Int)), []⟩, k + v, by omega, by omega, by rw [hcnt]; omega, rtT hd64 _, by rw [ienc_eq]; simp only; rw [if_pos trivial, if_neg hbad', htl, ← hh, hsub, take_add'], up fun m hm' => ⟨Comes.stop ?_, rd m _ (Comes.stop ?_)⟩⟩
                    · have e1 : ((!decide ((v : Int) = 1)) || decide ((128 : Int) ≤ (((idx (sub s (k : Int) ((k : Int) + (v : Int))) 0).toNat : Nat) : Int))) = true := by
                        simp only [Bool.or_eq_true, Bool.not_eq_true', decide_eq_false_iff_not, decide_eq_true_eq]; omega
                      rw [G1, decide_eq_false (by omega), Bool.not_false, cond_true, gO_pos (fun h => by simp at h; omega), e1, must_true, Option.bind_some]
                      simp only [g_rlp_Text, Option.bind_some]
                      rw [gO_pos (by unfold inI; omega), hcnt, ekv]
                    · have e1 : (decide ((v : Int) = 1) && decide ((((idx (sub s (k : Int) ((k : Int) + (v : Int))) 0).toNat : Nat) : Int) < 128)) = false := by
                        simp only [Bool.and_eq_false_iff, decide_eq_false_iff_not]; omega
                      rw [J1, decide_eq_false (by omega), Bool.not_false, cond_true, gO_pos (fun h => by have := of_decide_eq_true h; omega), e1, cond_false, gO_pos (by unfold inI; omega), hcnt, ekv]
theorem Get_Read (s : List UInt8) (hl : s.length ≤ 2 ^ 40) : (∃ (x : Item) (k : Nat) (a : Int), icnt x ≤ 4096 ∧ RT 65 x ∧ ienc x = s.take k ∧ k ≤ s.length ∧ g_rlp_Get s = some (x, (k : Int), 0) ∧ g_ref05_Read s 0 4096 = some (x, (k : Int), a, 0)) ∨
    (∃ e : Int, e ≠ 0 ∧ g_rlp_Get s = some (noI, 0, e) ∧ g_ref05_Read s 0 4096 = some (noI, 0, 0, e)) := by
  rcases agree 66 s 0 0 (by decide) rfl (by decide) hl with ⟨x, k, k1, k2, k3, k4, k5, h⟩ | ⟨e, c', he, h⟩
  · have h1 : g_rlp_counter_get s 0 ⟨0⟩ = some (.inl (x, (k : Int)), ⟨((0 + icnt x : Nat) : Int)⟩) := theR_eq 66 fun m hm => (h m hm).1
    have h2 : g_ref05_Read s 0 4096 = some (x, (k : Int), ((4096 - (0 + icnt x) : Nat) : Int), 0) := theR_eq 66 fun m hm => (h m hm).2
    refine .inl ⟨x, k, _, by omega, k4, k5, k2, ?_, h2⟩
    unfold g_rlp_Get
    rw [h1]; rfl
  · have h1 : g_rlp_counter_get s 0 ⟨0⟩ = some (.inr e, c') := theR_eq 66 fun m hm => (h m hm).1
    have h2 : g_ref05_Read s 0 4096 = some (noI, 0, 0, e) := theR_eq 66 fun m hm => (h m hm).2
    refine .inr ⟨e, he, ?_, h2⟩
    unfold g_rlp_Get
    rw [h1]; rfl
end Go.Proofs.Ytoeppofkmcdknaa.K
