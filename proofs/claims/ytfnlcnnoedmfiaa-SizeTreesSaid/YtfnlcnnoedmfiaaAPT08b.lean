/- The trees that are built: all their nodes, the nodes of a path, and how large they are. -/
import Derived.Test.YtfnlcnnoedmfiaaAPT08
namespace Go.Proofs.Ytfnlcnnoedmfiaa.K
open Go
set_option linter.unusedVariables false
set_option linter.unusedSimpArgs false
def wt (l : List (List UInt8)) : Nat := (l.map List.length).sum
theorem wt_nil : wt [] = 0 := rfl
theorem wt_cons (x : List UInt8) (l : List (List UInt8)) : wt (x :: l) = x.length + wt l := by simp [wt]
theorem wt_app (a b : List (List UInt8)) : wt (a ++ b) = wt a + wt b := by simp [wt]
theorem wt_flat {α : Type} (f : α → List (List UInt8)) : ∀ l : List α, wt (l.flatMap f) = (l.map fun x => wt (f x)).sum
  | [] => rfl
  | x :: r => by rw [List.flatMap_cons, wt_app, wt_flat f r, List.map_cons, List.sum_cons]
theorem wt_len : ∀ l : List (List UInt8), (∀ s ∈ l, 1 ≤ s.length) → l.length ≤ wt l
  | [], _ => Nat.zero_le _
  | x :: r, h => by
    have h1 := wt_len r fun y hy => h y (List.mem_cons_of_mem _ hy)
    have h2 := h x (List.mem_cons_self ..)
    rw [wt_cons, List.length_cons]; omega
def sumTo (g : Nat → Nat) : Nat → Nat
  | 0 => 0
  | n + 1 => sumTo g n + g n
theorem sum_range (g : Nat → Nat) : ∀ n, ((List.range n).map g).sum = sumTo g n
  | 0 => rfl
  | n + 1 => by rw [List.range_succ, List.map_append, List.sum_append, sum_range g n]; simp [sumTo]
theorem sumTo_one (g : Nat → Nat) : ∀ n a, a < n → g a ≤ sumTo g n
  | 0, a, h => by omega
  | n + 1, a, h => by
    rw [sumTo]
    by_cases ha : a = n
    · subst ha; omega
    · have := sumTo_one g n a (by omega); omega
theorem sumTo_two (g : Nat → Nat) : ∀ n a b, a < b → b < n → g a + g b ≤ sumTo g n
  | 0, a, b, _, h => by omega
  | n + 1, a, b, hab, h => by
    rw [sumTo]
    by_cases hb : b = n
    · subst hb; have := sumTo_one g b a hab; omega
    · have := sumTo_two g n a b hab (by omega); omega
theorem sumTo_le {f g : Nat → Nat} : ∀ n, (∀ i, i < n → f i ≤ g i) → sumTo f n ≤ sumTo g n
  | 0, _ => Nat.le_refl _
  | n + 1, h => by
    have := sumTo_le n fun i hi => h i (by omega)
    have := h n (by omega)
    rw [sumTo, sumTo]; omega
theorem sumTo_add (f g : Nat → Nat) : ∀ n, sumTo (fun i => f i + g i) n = sumTo f n + sumTo g n
  | 0 => rfl
  | n + 1 => by rw [sumTo, sumTo, sumTo, sumTo_add f g n]; omega
theorem sumTo_mul (f : Nat → Nat) (c : Nat) : ∀ n, sumTo (fun i => f i * c) n = sumTo f n * c
  | 0 => by simp [sumTo]
  | n + 1 => by rw [sumTo, sumTo, sumTo_mul f c n, Nat.add_mul]
theorem sumTo_hit (a : Nat) : ∀ n, sumTo (fun i => if a = i then 1 else 0) n = if a < n then 1 else 0
  | 0 => rfl
  | n + 1 => by
    rw [sumTo, sumTo_hit a n]
    by_cases h : a = n
    · subst h; simp
    · by_cases h2 : a < n
      · rw [if_pos h2, if_neg h, if_pos (by omega)]
      · rw [if_neg h2, if_neg h, if_neg (by omega)]
theorem part_sum : ∀ l : List In, (∀ x ∈ l, (x.fPath.getD 0 0).toNat < 16) → sumTo (fun c => (beg l c).length) 16 = l.length
  | [], _ => by simp [beg, sumTo]
  | x :: r, h => by
    have ih := part_sum r fun y hy => h y (List.mem_cons_of_mem _ hy)
    have hx := h x (List.mem_cons_self ..)
    have e : (fun c => (beg (x :: r) c).length) = fun c => (beg r c).length + (if (x.fPath.getD 0 0).toNat = c then 1 else 0) := by
      funext c
      unfold beg
      rw [List.filter_cons]
      by_cases hc : (x.fPath.getD 0 0).toNat = c
      · rw [if_pos (by simpa using hc), if_pos hc]; rfl
      · rw [if_neg (by simpa using hc), if_neg hc, Nat.add_zero]
    rw [e, sumTo_add, ih, sumTo_hit, if_pos hx, List.length_cons]
theorem two_parts {v d : Nat} {l : List In} (h : WF v d l) (h2 : 2 ≤ l.length) (h0 : comL l = 0) : ∃ a b : Nat, a < b ∧ b < 16 ∧ beg l a ≠ [] ∧ beg l b ≠ [] := by
  have hd : 0 < d := by have := h.com_lt h2; omega
  have hl : l ≠ [] := by intro e; rw [e] at h2; simp at h2
  have hm : idx l (0 : Int) ∈ l := idx_mem l (i := 0) (by omega)
  have hex : ∃ y ∈ l, (y.fPath.getD 0 0).toNat ≠ ((idx l (0 : Int)).fPath.getD 0 0).toNat := by
    by_cases hc : ∃ y ∈ l, (y.fPath.getD 0 0).toNat ≠ ((idx l (0 : Int)).fPath.getD 0 0).toNat
    · exact hc
    · exfalso
      have : 1 ≤ comL l := comL_max hl fun x hx => ⟨by rw [h.len x hx]; exact hd, take1 (by rw [h.len x hx]; exact hd) (by unfold p0; rw [h.len _ hm]; exact hd) (by
        by_cases e : (x.fPath.getD 0 0).toNat = ((idx l (0 : Int)).fPath.getD 0 0).toNat
        · exact e
        · exact absurd ⟨x, hx, e⟩ hc)⟩
      omega
  obtain ⟨y, hy, hne⟩ := hex
  have b1 := right_lt (h.nib _ hm) 0
  have b2 := right_lt (h.nib _ hy) 0
  have n1 : beg l ((idx l (0 : Int)).fPath.getD 0 0).toNat ≠ [] := List.ne_nil_of_mem (List.mem_filter.2 ⟨hm, by simp⟩)
  have n2 : beg l (y.fPath.getD 0 0).toNat ≠ [] := List.ne_nil_of_mem (List.mem_filter.2 ⟨hy, by simp⟩)
  by_cases hlt : (y.fPath.getD 0 0).toNat < ((idx l (0 : Int)).fPath.getD 0 0).toNat
  · exact ⟨_, _, hlt, b1, n2, n1⟩
  · exact ⟨_, _, by omega, b2, n1, n2⟩
theorem com_rest {v d : Nat} {l : List In} (h : WF v d l) (hl : l ≠ []) : comL (rest l (comL l)) = 0 := by
  have hm : idx l (0 : Int) ∈ l := idx_mem l (i := 0) (List.length_pos_iff.2 hl)
  have hr : rest l (comL l) ≠ [] := by intro e; have := congrArg List.length e; rw [rest_len] at this; exact hl (List.eq_nil_of_length_eq_zero this)
  have h0 : p0 (rest l (comL l)) = (p0 l).drop (comL l) := by
    cases l with
    | nil => exact absurd rfl hl
    | cons x r => rfl
  have key : comL l + comL (rest l (comL l)) ≤ comL l := by
    refine comL_max hl fun x hx => ?_
    have e1 := comL_take hx
    have e2 := comL_take (l := rest l (comL l)) (List.mem_map.2 ⟨x, hx, rfl⟩)
    rw [h0] at e2
    obtain ⟨e3, e4⟩ := e2
    have e3 : comL (rest l (comL l)) ≤ (x.fPath.drop (comL l)).length := e3
    have e4 : (x.fPath.drop (comL l)).take _ = ((p0 l).drop (comL l)).take _ := e4
    rw [List.length_drop] at e3
    refine ⟨by omega, ?_⟩
    rw [List.take_add, List.take_add, e1.2, e4]
  omega
def NO (v : Nat) (l : List In) (L : List (List UInt8)) : Prop :=
  (l = [] → L = []) ∧ (∀ s ∈ L, 1 ≤ s.length ∧ s.length ≤ 532 + v) ∧ (l ≠ [] → wt L + 900 ≤ l.length * (1800 + v)) ∧ (l ≠ [] → (l.length = 1 ∨ comL l = 0) → wt L + 1000 ≤ l.length * (1800 + v))
theorem NO.wt_le {v : Nat} {l : List In} {L : List (List UInt8)} (h : NO v l L) (hv : v ≤ 100) (hl : l.length ≤ 64) : L.length ≤ 121600 ∧ wt L ≤ l.length * (1800 + v) := by
  have h1 := wt_len L fun s hs => (h.2.1 s hs).1
  by_cases e : l = []
  · rw [h.1 e]; simp [wt]
  · have := h.2.2.1 e
    have : l.length * (1800 + v) ≤ 64 * 1900 := Nat.mul_le_mul hl (by omega)
    omega
theorem Nodes_all (v : Nat) : ∀ n d l, d < n → WF v d l → ∃ L, (∀ m, d < m → rec_ref08_Nodes m l = some L) ∧ NO v l L
  | 0, d, l, h, _ => by omega
  | n + 1, d, l, hd, h => by
    have ih := Nodes_all v n
    have hcnt := h.cnt
    have hdep := h.dep
    have htop := h.top
    have up : ∀ L : List (List UInt8), (∀ m, d ≤ m → gs_ref08_Nodes (rec_ref08_Nodes m) l = some L) → ∀ m, d < m → rec_ref08_Nodes m l = some L := by
      intro L hL m hm
      obtain ⟨m, rfl⟩ : ∃ k, m = k + 1 := ⟨m - 1, by omega⟩
      exact hL m (by omega)
    by_cases hl : l = []
    · subst hl
      obtain ⟨x, hx⟩ := Node_nil
      refine ⟨[], up _ fun m hm => theC_eq (Comes.stop ?_), fun _ => rfl, by simp, fun h => absurd rfl h, fun h => absurd rfl h⟩
      simp only [step_ref08_Nodes]
      rw [hx]; rfl
    · obtain ⟨l1, l2, l3, l4, l5⟩ := putL h hl
      have hpos : 0 < l.length := List.length_pos_iff.2 hl
      by_cases h1 : l.length = 1
      · have hk : (nodeP l).fKind = 1 := by unfold nodeP; rw [if_pos h1]
        have h3 := l3 h1
        refine ⟨[putP (nodeP l)], up _ fun m hm => theC_eq (Comes.next (c' := .L1 [putP (nodeP l)] 0 (nodeP l).fKind (nodeP l).fPath (nodeP l).fValue (nodeP l).fKids) ?_ (Comes.stop ?_)), fun e => absurd e hl, ?_, fun _ => ?_, fun _ _ => ?_⟩
        · simp only [step_ref08_Nodes]
          rw [Node_ok h hl, Option.bind_some, Bool.not_true, cond_false]
          show (g_ref06_Put (nodeP l)).bind _ = _
          rw [putR h hl, Option.bind_some, hk, decide_eq_false (by omega), cond_false]
        · simp only [step_ref08_Nodes]
          rw [hk, decide_eq_false (p := (1 : Int) = 3) (by omega), Bool.and_false, cond_false]
        · intro s hs
          rw [List.mem_singleton.1 hs]; exact ⟨l1, l2⟩
        · rw [wt_cons, wt_nil, h1]; omega
        · rw [wt_cons, wt_nil, h1]; omega
      · have hlt := h.com_lt (by omega)
        by_cases h2 : 0 < comL l
        · have hk : (nodeP l).fKind = 2 := by unfold nodeP; rw [if_neg h1, if_pos h2]
          have hp : (nodeP l).fPath = (p0 l).take (comL l) := by unfold nodeP; rw [if_neg h1, if_pos h2]
          have hm := h.len _ (idx_mem l (i := 0) hpos)
          have hpl : (nodeP l).fPath.length = comL l := by
            rw [hp, List.length_take]
            have : (p0 l).length = d := hm
            omega
          have h70 := l4 h1 h2
          obtain ⟨L, hL, hN⟩ := ih (d - comL l) (rest l (comL l)) (by omega) h.ext
          have hre : rest l (comL l) ≠ [] := by intro e; have := congrArg List.length e; rw [rest_len] at this; exact hl (List.eq_nil_of_length_eq_zero this)
          have hw := hN.2.2.2 hre (.inr (com_rest h hl))
          have hw2 := hN.wt_le htop (by rw [rest_len]; exact hcnt)
          rw [rest_len] at hw
          refine ⟨[putP (nodeP l)] ++ L, up _ fun m hm => theC_eq (Comes.stop ?_), fun e => absurd e hl, ?_, fun _ => ?_, fun _ h' => ?_⟩
          · simp only [step_ref08_Nodes]
            rw [Node_ok h hl, Option.bind_some, Bool.not_true, cond_false]
            show (g_ref06_Put (nodeP l)).bind _ = _
            rw [putR h hl, Option.bind_some, hk, decide_eq_true rfl, cond_true, hpl, Rest_ok l _ (fun x hx => (comL_take hx).1) (by omega), Option.bind_some, hL m (by omega), Option.bind_some, gO_pos (by simp only [List.length_singleton]; omega)]
          · intro s hs
            rcases List.mem_append.1 hs with hs | hs
            · rw [List.mem_singleton.1 hs]; exact ⟨l1, l2⟩
            · exact hN.2.1 s hs
          · rw [wt_app, wt_cons, wt_nil]; omega
          · omega
        · have hk : (nodeP l).fKind = 3 := by unfold nodeP; rw [if_neg h1, if_neg h2]
          have h532 := l5 h1
          have hkid : ∀ c, ∃ L, (∀ m, d - 1 < m → rec_ref08_Nodes m (rest (beg l c) 1) = some L) ∧ NO v (rest (beg l c) 1) L := fun c => ih (d - 1) _ (by omega) (h.kid (by omega) c)
          let F : Nat → List (List UInt8) := fun c => Classical.choose (hkid c)
          have hF : ∀ c, (∀ m, d - 1 < m → rec_ref08_Nodes m (rest (beg l c) 1) = some (F c)) ∧ NO v (rest (beg l c) 1) (F c) := fun c => Classical.choose_spec (hkid c)
          clear_value F
          have hFl : ∀ c, (F c).length ≤ 121600 := fun c => ((hF c).2.wt_le htop (by have := beg_len l c; rw [rest_len]; omega)).1
          have hsum : wt ((List.range 16).flatMap F) + 1800 ≤ l.length * (1800 + v) := by
            rw [wt_flat, sum_range]
            have e1 := part_sum l fun x hx => right_lt (h.nib x hx) 0
            rw [← e1, ← sumTo_mul]
            obtain ⟨a, b, hab, hb, na, nb⟩ := two_parts h (by omega) (by omega)
            have e2 := sumTo_two (fun c => if beg l c = [] then 0 else 900) 16 a b hab hb
            simp only [if_neg na, if_neg nb] at e2
            have e3 : sumTo (fun c => wt (F c) + (if beg l c = [] then 0 else 900)) 16 ≤ sumTo (fun c => (beg l c).length * (1800 + v)) 16 := by
              refine sumTo_le 16 fun c _ => ?_
              obtain ⟨_, hN⟩ := hF c
              by_cases hb : beg l c = []
              · have : F c = [] := hN.1 (by rw [hb]; rfl)
                rw [this, if_pos hb, wt_nil]; omega
              · have hne : rest (beg l c) 1 ≠ [] := by intro e; have := congrArg List.length e; rw [rest_len] at this; exact hb (List.eq_nil_of_length_eq_zero this)
                have := hN.2.2.1 hne
                rw [rest_len] at this
                rw [if_neg hb]; exact this
            rw [sumTo_add] at e3
            omega
          refine ⟨[putP (nodeP l)] ++ (List.range 16).flatMap F, up _ fun m hm => theC_eq ?_, fun e => absurd e hl, ?_, fun _ => ?_, fun _ _ => ?_⟩
          · refine Comes.next (c' := .L1 ([putP (nodeP l)] ++ (List.range 0).flatMap F) ((0 : Nat) : Int) (nodeP l).fKind (nodeP l).fPath (nodeP l).fValue (nodeP l).fKids) ?_ ?_
            · simp only [step_ref08_Nodes]
              rw [Node_ok h hl, Option.bind_some, Bool.not_true, cond_false]
              show (g_ref06_Put (nodeP l)).bind _ = _
              rw [putR h hl, Option.bind_some, hk, decide_eq_false (by omega), cond_false]
              rfl
            · rw [hk]
              refine Comes.upto (fun i => C_ref08_Nodes.L1 ([putP (nodeP l)] ++ (List.range i).flatMap F) (i : Int) 3 (nodeP l).fPath (nodeP l).fValue (nodeP l).fKids) 16 (fun i hi => ?_) (Comes.stop ?_)
              · have hb := beg_len l i
                have hfl := flat_le F 121600 (List.range i) fun c _ => hFl c
                have := hFl i
                rw [List.length_range] at hfl
                simp only [step_ref08_Nodes]
                rw [decide_eq_true (by omega), decide_true, Bool.true_and, cond_true, Begin_ok l i (fun x hx => by rw [h.len x hx]; omega) (by omega), Option.bind_some]
                rw [show (1 : Int) = ((1 : Nat) : Int) from rfl, Rest_ok (beg l i) 1 (fun x hx => by rw [(h.beg i).len x hx]; omega) (by omega), Option.bind_some, (hF i).1 m (by omega), Option.bind_some, gO_pos (by rw [List.length_append, List.length_singleton]; omega), gO_pos (by unfold inI; omega), List.range_succ, List.flatMap_append, List.flatMap_singleton, List.append_assoc]
                rfl
              · simp only [step_ref08_Nodes]
                rw [decide_eq_false (by omega), Bool.false_and, cond_false]
          · intro s hs
            rcases List.mem_append.1 hs with hs | hs
            · rw [List.mem_singleton.1 hs]; exact ⟨l1, l2⟩
            · obtain ⟨c, _, hc⟩ := List.mem_flatMap.1 hs
              exact (hF c).2.2.1 s hc
          · rw [wt_app, wt_cons, wt_nil]; omega
          · rw [wt_app, wt_cons, wt_nil]; omega
theorem Nodes_ok {v d : Nat} {l : List In} (h : WF v d l) : ∃ L, g_ref08_Nodes l = some L ∧ NO v l L := by
  obtain ⟨L, h1, h2⟩ := Nodes_all v (d + 1) d l (by omega) h
  exact ⟨L, theR_eq (d + 1) fun m hm => h1 m (by omega), h2⟩
def nwt (l : List Node) : Nat := (l.map fun n => (putP n).length).sum
theorem nwt_cons (x : Node) (l : List Node) : nwt ([x] ++ l) = (putP x).length + nwt l := by simp [nwt]
def PO (v d : Nat) (L : List Node) : Prop := L.length ≤ d + 1 ∧ nwt L ≤ 560 * d + 600 + v ∧ ∀ n ∈ L, g_ref06_Put n = some (putP n)
theorem Path_all (v : Nat) : ∀ n d l (p : List UInt8), d < n → WF v d l → p.length = d → ∃ L, (∀ m, d < m → rec_ref10_Path m l p = some L) ∧ PO v d L
  | 0, d, l, p, h, _, _ => by omega
  | n + 1, d, l, p, hd, h, hpd => by
    have ih := Path_all v n
    have hcnt := h.cnt
    have hdep := h.dep
    have htop := h.top
    have up : ∀ L : List Node, (∀ m, d ≤ m → gs_ref10_Path (rec_ref10_Path m) l p = some L) → ∀ m, d < m → rec_ref10_Path m l p = some L := by
      intro L hL m hm
      obtain ⟨m, rfl⟩ : ∃ k, m = k + 1 := ⟨m - 1, by omega⟩
      exact hL m (by omega)
    by_cases hl : l = []
    · subst hl
      obtain ⟨x, hx⟩ := Node_nil
      refine ⟨[], up _ fun m hm => ?_, by simp, by simp [nwt], by simp⟩
      unfold gs_ref10_Path
      rw [hx]; rfl
    · obtain ⟨l1, l2, l3, l4, l5⟩ := putL h hl
      have hput := putR h hl
      have hpos : 0 < l.length := List.length_pos_iff.2 hl
      have one : PO v d [nodeP l] := ⟨by simp, by simp only [nwt, List.map_cons, List.map_nil, List.sum_cons, List.sum_nil]; omega, fun n hn => by rw [List.mem_singleton.1 hn]; exact hput⟩
      have add : ∀ d' L, d' < d → l.length ≠ 1 → PO v d' L → PO v d ([nodeP l] ++ L) := by
        intro d' L hd' h1 ⟨a, b, c⟩
        refine ⟨by rw [List.length_append, List.length_singleton]; omega, ?_, ?_⟩
        · rw [nwt_cons]
          have := l5 h1
          omega
        · intro n hn
          rcases List.mem_append.1 hn with hn | hn
          · rw [List.mem_singleton.1 hn]; exact hput
          · exact c n hn
      by_cases h1 : l.length = 1
      · have hk : (nodeP l).fKind = 1 := by unfold nodeP; rw [if_pos h1]
        refine ⟨_, up _ fun m hm => ?_, one⟩
        unfold gs_ref10_Path
        rw [Node_ok h hl, Option.bind_some, Bool.not_true, cond_false]
        simp only [hk]
        rfl
      · have hlt := h.com_lt (by omega)
        by_cases h2 : 0 < comL l
        · have hk : (nodeP l).fKind = 2 := by unfold nodeP; rw [if_neg h1, if_pos h2]
          have hp : (nodeP l).fPath = (p0 l).take (comL l) := by unfold nodeP; rw [if_neg h1, if_pos h2]
          have hm := h.len _ (idx_mem l (i := 0) hpos)
          have hpl : (nodeP l).fPath.length = comL l := by
            rw [hp, List.length_take]
            have : (p0 l).length = d := hm
            omega
          have hC := RCommon_ok (nodeP l).fPath p (by omega)
          by_cases hc : common (nodeP l).fPath p = comL l
          · obtain ⟨L, hL, hN⟩ := ih (d - comL l) (rest l (comL l)) (p.drop (comL l)) (by omega) h.ext (by rw [List.length_drop]; omega)
            refine ⟨_, up _ fun m hm => ?_, add _ L (by omega) h1 hN⟩
            unfold gs_ref10_Path
            rw [Node_ok h hl, Option.bind_some, Bool.not_true, cond_false]
            simp only [hk, hpl, decide_true, Bool.true_and]
            rw [decide_eq_true (p := ((comL l : Nat) : Int) ≤ (p.length : Int)) (by omega), show (true == true) = true from rfl, cond_true, hC, Option.bind_some, hc, decide_eq_true rfl, Bool.true_and, cond_true, Rest_ok l _ (fun x hx => (comL_take hx).1) (by omega), Option.bind_some, gO_pos (by omega), sub_suf, hL m (by omega), Option.bind_some]
            have hLl := hN.1
            rw [gO_pos (by simp only [List.length_singleton]; omega)]
          · refine ⟨_, up _ fun m hm => ?_, one⟩
            unfold gs_ref10_Path
            rw [Node_ok h hl, Option.bind_some, Bool.not_true, cond_false]
            simp only [hk, hpl, decide_true, Bool.true_and]
            rw [decide_eq_true (p := ((comL l : Nat) : Int) ≤ (p.length : Int)) (by omega), show (true == true) = true from rfl, cond_true, hC, Option.bind_some, decide_eq_false (p := ((common (nodeP l).fPath p : Nat) : Int) = _) (by omega), Bool.and_false, cond_false]
            rfl
        · have hk : (nodeP l).fKind = 3 := by unfold nodeP; rw [if_neg h1, if_neg h2]
          have hb := beg_len l (idx p (0 : Int)).toNat
          obtain ⟨L, hL, hN⟩ := ih (d - 1) (rest (beg l (idx p (0 : Int)).toNat) 1) (p.drop 1) (by omega) (h.kid (by omega) _) (by rw [List.length_drop]; omega)
          refine ⟨_, up _ fun m hm => ?_, add _ L (by omega) h1 hN⟩
          unfold gs_ref10_Path
          rw [Node_ok h hl, Option.bind_some, Bool.not_true, cond_false]
          simp only [hk]
          rw [decide_eq_false (p := (3 : Int) = 2) (by omega), Bool.false_and, show (false == true) = false from rfl, cond_false, Option.bind_some, Bool.false_and, cond_false, decide_true, decide_eq_true (p := (0 : Int) < (p.length : Int)) (by omega), Bool.true_and, cond_true, gO_pos (by omega), Begin_ok l _ (fun x hx => by rw [h.len x hx]; omega) (by omega), Option.bind_some]
          rw [show (1 : Int) = ((1 : Nat) : Int) from rfl, Rest_ok (beg l _) 1 (fun x hx => by rw [(h.beg _).len x hx]; omega) (by omega), Option.bind_some, gO_pos (by omega), sub_suf, hL m (by omega), Option.bind_some]
          have hLl := hN.1
          rw [gO_pos (by simp only [List.length_singleton]; omega)]
theorem Path_ok {v d : Nat} {l : List In} {p : List UInt8} (h : WF v d l) (hp : p.length = d) : ∃ L, g_ref10_Path l p = some L ∧ PO v d L := by
  obtain ⟨L, h1, h2⟩ := Path_all v (d + 1) d l p (by omega) h hp
  exact ⟨L, theR_eq (d + 1) fun m hm => h1 m (by omega), h2⟩
end Go.Proofs.Ytfnlcnnoedmfiaa.K
