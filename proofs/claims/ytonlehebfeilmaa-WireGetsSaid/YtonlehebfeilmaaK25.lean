/- What the printed walks lean on: states at loops, tests that part, the words of the reckoning. -/
import Derived.Test.YtonlehebfeilmaaK24
import Derived.ChangeKeysEq
namespace Go.Proofs.Ytonlehebfeilmaa.K
open Go Go.RowKit

variable {P : Program} {N : Nat} {ops : Array Oper} {o : Oper} {r : List Oper} {s : St}

def puts : List (Nat × PV) → (Nat → PV) → Nat → PV
  | [], S => S
  | x :: r, S => putS (puts r S) (some x.1) x.2
def puths : List (Nat × HO) → HM → HM
  | [], H => H
  | x :: r, H => putH (puths r H) x.1 (some x.2)

/-- A state, as far as a loop's law tells it. -/
def AtS (S : Nat → PV) : List (Nat × PV) → Prop
  | [] => True
  | x :: r => S x.1 = x.2 ∧ AtS S r
def AtH (H : HM) : List (Nat × HO) → Prop
  | [] => True
  | x :: r => H x.1 = some x.2 ∧ AtH H r
def At (s : St) (L : List (Nat × PV)) (M : List (Nat × HO)) : Prop := s.df = [] ∧ AtS s.S L ∧ AtH s.H M

theorem puts_self {S : Nat → PV} : ∀ (L : List (Nat × PV)), AtS S L → puts L S = S
  | [], _ => rfl
  | x :: r, h => by
    rw [puts, puts_self r h.2]
    funext t
    rw [putS_at]
    split
    · rename_i e; rw [e, h.1]
    · rfl
theorem puths_self {H : HM} : ∀ (L : List (Nat × HO)), AtH H L → puths L H = H
  | [], _ => rfl
  | x :: r, h => by
    rw [puths, puths_self r h.2]
    funext t
    rw [putH_at]
    split
    · rename_i e; rw [e, h.1]
    · rfl
theorem At.get {L : List (Nat × PV)} {M : List (Nat × HO)} (h : At s L M) : ∃ S H nx, s = ⟨puts L S, puths M H, nx, []⟩ := by
  obtain ⟨S, H, nx, df⟩ := s
  obtain ⟨h1, h2, h3⟩ := h
  refine ⟨S, H, nx, ?_⟩
  simp only at h1
  rw [puts_self L h2, puths_self M h3, h1]

theorem atS_nil {S : Nat → PV} : AtS S [] = True := rfl
theorem atS_cons {S : Nat → PV} {t : Nat} {v : PV} {r : List (Nat × PV)} : AtS S ((t, v) :: r) = (S t = v ∧ AtS S r) := rfl
theorem atH_nil {H : HM} : AtH H [] = True := rfl
theorem atH_cons {H : HM} {t : Nat} {v : HO} {r : List (Nat × HO)} : AtH H ((t, v) :: r) = (H t = some v ∧ AtH H r) := rfl
theorem at_mk {S : Nat → PV} {H : HM} {nx : Nat} {L : List (Nat × PV)} {M : List (Nat × HO)} : At ⟨S, H, nx, []⟩ L M = (AtS S L ∧ AtH H M) := by simp [At]

def frzOp (l : List Nat) (o : Oper) : Bool :=
  match o.op, o.dst with
  | .box .., some d => l.contains d
  | _, _ => false
theorem XK.frozenAt {Q : PX → St → Prop} (l : List Nat) (_ : frzOp l o = true) (hg : o.guard = none) (h : stepF P o.dst.toList o s fun v H' nx' _ _ => XK P ops r ⟨putS s.S o.dst v, H', nx', s.df⟩ Q) : XK P ops (o :: r) s Q := XK.frozen hg h
theorem XK.part {Q : PX → St → Prop} {b w : Bool} (_ : guardP ops o s.S = some (b == w)) (h1 : b = true → XK P ops (o :: r) s Q) (h2 : b = false → XK P ops (o :: r) s Q) : XK P ops (o :: r) s Q := by
  cases b with
  | true => exact h1 rfl
  | false => exact h2 rfl
theorem RQ.part {Q : St → Prop} {b w : Bool} (_ : guardP ops o s.S = some (b == w)) (h1 : b = true → RQ P ops (o :: r) s Q) (h2 : b = false → RQ P ops (o :: r) s Q) : RQ P ops (o :: r) s Q := by
  cases b with
  | true => exact h1 rfl
  | false => exact h2 rfl
theorem RK.part {acc : List Rec} {Q : St → List Rec → Prop} {b w : Bool} (_ : guardP ops o s.S = some (b == w)) (h1 : b = true → RK P ops (o :: r) s acc Q) (h2 : b = false → RK P ops (o :: r) s acc Q) : RK P ops (o :: r) s acc Q := by
  cases b with
  | true => exact h1 rfl
  | false => exact h2 rfl
theorem RecsOK.none {M : List Nat} {L : List Rec} (h : ∀ R ∈ L, R.W = [] ∧ R.lo = R.hi) : RecsOK M L := RecsOK.quiet h

theorem or_u8' (a b : UInt8) : ((@BitVec.toNat 8 (@HOr.hOr (BitVec 8) (BitVec 8) (BitVec 8) (@instHOrOfOrOp (BitVec IntKind.u8.bits) (@BitVec.instOrOp IntKind.u8.bits)) (BitVec.ofInt 8 (a.toNat : Int)) (BitVec.ofInt 8 (b.toNat : Int))) : Nat) : Int) = (a ||| b).toNat := by
  rw [show BitVec.ofInt 8 (a.toNat : Int) = a.toBitVec from ofInt_u8 a, show BitVec.ofInt 8 (b.toNat : Int) = b.toBitVec from ofInt_u8 b]; rfl
theorem and_u8' (a b : UInt8) : ((@BitVec.toNat 8 (@HAnd.hAnd (BitVec 8) (BitVec 8) (BitVec 8) (@instHAndOfAndOp (BitVec IntKind.u8.bits) (@BitVec.instAndOp IntKind.u8.bits)) (BitVec.ofInt 8 (a.toNat : Int)) (BitVec.ofInt 8 (b.toNat : Int))) : Nat) : Int) = (a &&& b).toNat := by
  rw [show BitVec.ofInt 8 (a.toNat : Int) = a.toBitVec from ofInt_u8 a, show BitVec.ofInt 8 (b.toNat : Int) = b.toBitVec from ofInt_u8 b]; rfl
theorem and15' (a : UInt8) : ((@BitVec.toNat 8 (@HAnd.hAnd (BitVec 8) (BitVec 8) (BitVec 8) (@instHAndOfAndOp (BitVec IntKind.u8.bits) (@BitVec.instAndOp IntKind.u8.bits)) (BitVec.ofInt 8 (a.toNat : Int)) (BitVec.ofInt 8 (15 : Int))) : Nat) : Int) = (a % 16).toNat := by
  have h := and_u8' a 15
  have e : ((15 : UInt8).toNat : Int) = 15 := by decide
  rw [e] at h
  rw [h]
  have : a &&& 15 = a % 16 := by
    apply UInt8.toNat_inj.1
    rw [UInt8.toNat_and, UInt8.toNat_mod]
    exact Nat.and_two_pow_sub_one_eq_mod a.toNat 4
  rw [this]
theorem shr4' (a : UInt8) : ((a.toNat : Int)).fdiv (2 ^ (min (4 : Int).toNat 8)) = (a / 16).toNat := shr4 a
theorem shl4' (a : UInt8) : IntKind.u8.wrap ((a.toNat : Int) * 2 ^ (min (4 : Int).toNat 8)) = (a * 16).toNat := shl4 a
theorem bne_i (a b : Int) : (a != b) = !(a == b) := rfl
theorem loop_toList (bs : ByteArray) : ∀ (n i : Nat) (r : List UInt8), bs.size - i = n → ByteArray.toList.loop bs i r = r.reverse ++ bs.data.toList.drop i := by
  have e : bs.data.size = bs.size := rfl
  intro n
  induction n with
  | zero =>
    intro i r h
    rw [ByteArray.toList.loop, if_neg (by omega), List.drop_eq_nil_of_le (by simp; omega), List.append_nil]
  | succ n ih =>
    intro i r h
    rw [ByteArray.toList.loop, if_pos (by omega), ih (i + 1) _ (by omega)]
    have hi : i < bs.data.toList.length := by simp; omega
    rw [List.drop_eq_getElem_cons hi, List.reverse_cons, List.append_assoc]
    congr 2
    rw [ByteArray.get!, getElem!_pos bs.data i (by simpa using hi)]
    simp
theorem str_toList (l : List UInt8) : (ByteArray.mk l.toArray).toList = l := by
  rw [ByteArray.toList, loop_toList _ _ 0 [] rfl]
  simp
theorem str_size (l : List UInt8) : (ByteArray.mk l.toArray).size = l.length := by simp [ByteArray.size]
theorem str_append (a b : List UInt8) : ByteArray.mk a.toArray ++ ByteArray.mk b.toArray = ByteArray.mk (a ++ b).toArray := by
  apply WideShapes.bytes_inj
  simp
theorem str_extract (l : List UInt8) (i j : Nat) : (ByteArray.mk l.toArray).extract i j = ByteArray.mk ((l.drop i).take (j - i)).toArray := by
  apply WideShapes.bytes_inj
  simp
theorem drop_all (l : List UInt8) (i : Nat) : (l.drop i).take (l.length - i) = l.drop i := List.take_of_length_le (by simp)
theorem str_data (l : List UInt8) : (ByteArray.mk l.toArray).data.toList = l := by simp
theorem str_inj (a b : List UInt8) : (ByteArray.mk a.toArray = ByteArray.mk b.toArray) = (a = b) := by simp
theorem i64_max : IntKind.i64.max = 9223372036854775807 := rfl
theorem repP_set {m : Mem} {ρ : Ren} {p q : PV} (h : ∀ v, Rep m ρ p v → Rep m ρ q v) : ∀ (l : List PV) (vs : List Value) (j : Nat), l[j]? = some p → RepP m ρ l vs → RepP m ρ (l.set j q) vs
  | [], vs, j, hj, _ => by simp at hj
  | x :: r, vs, 0, hj, hr => by
    simp only [List.getElem?_cons_zero, Option.some.injEq] at hj
    subst hj
    simp only [List.set_cons_zero, RepP] at hr ⊢
    obtain ⟨v, vr, e1, e2, e3⟩ := hr
    exact ⟨v, vr, e1, h v e2, e3⟩
  | x :: r, vs, j + 1, hj, hr => by
    simp only [List.getElem?_cons_succ] at hj
    simp only [List.set_cons_succ, RepP] at hr ⊢
    obtain ⟨v, vr, e1, e2, e3⟩ := hr
    exact ⟨v, vr, e1, e2, repP_set h r vr j hj e3⟩

/-- What is nothing, in a variable, is a row of one's own. -/
theorem PW.bufV {c : Code} {Q : PX → St → Prop} (id j sz : Nat) (l : List PV) (hH : s.H id = some (.var l)) (hj : l[j]? = some (.full []))
    (h : PW P N c ⟨s.S, putH (putH s.H id (some (.var (l.set j (.own s.nx []))))) s.nx (some (.spare sz 0)), s.nx + 1, s.df⟩ Q) : PW P N c s Q := by
  intro m ρ a w hI
  have hid : id ≠ s.nx := by intro e; rw [e, hI.hnil _ (Nat.le_refl _)] at hH; cases hH
  have nn : ∀ k, (∃ b c, ρ k = some (b, c)) → k ≠ s.nx := by
    rintro k ⟨b, c, h⟩ e
    subst e
    rw [hI.rnil _ (Nat.le_refl _)] at h; cases h
  have live : ∀ k, k ≠ s.nx → putH (putH s.H id (some (.var (l.set j (.own s.nx []))))) s.nx (some (.spare sz 0)) k ≠ none → s.H k ≠ none := by
    intro k hk
    simp only [putH, hk, if_false]
    split
    · rename_i e; intro _; rw [e, hH]; simp
    · exact fun h => h
  have hI' : Inv N ⟨s.S, putH (putH s.H id (some (.var (l.set j (.own s.nx []))))) s.nx (some (.spare sz 0)), s.nx + 1, s.df⟩ m ρ a w := by
    refine ⟨hI.size, hI.defers, hI.slots, ⟨hI.valid.mem, fun i o _ hH' => ?_, fun i j b c c' _ _ hi hj hri hrj => ?_⟩, fun i hi => ?_, fun i hi => hI.rnil i (by have : s.nx + 1 ≤ i := hi; omega)⟩
    · by_cases e : i = s.nx
      · subst e
        simp only [putH, if_true, Option.some.injEq] at hH'
        subst hH'
        exact .inl ⟨rfl, hI.rnil _ (Nat.le_refl _)⟩
      · by_cases e2 : i = id
        · subst e2
          simp only [putH, e, if_false, if_true, Option.some.injEq] at hH'
          subst hH'
          obtain ⟨b, c, vs, t, e1, e2, e3, e5, e4⟩ := hI.valid.entry i _ trivial hH
          refine ⟨b, c, vs, t, e1, e2, repP_set (fun v hv => ?_) _ _ _ hj e3, e5, e4⟩
          simp only [Rep] at hv ⊢
          obtain ⟨ad, ev, _⟩ := hv
          exact .inr ⟨trivial, ad, ev⟩
        · simp only [putH, e, e2, if_false] at hH'
          exact hI.valid.entry i o trivial hH'
    · exact hI.valid.apart i j b c c' trivial trivial (live i (nn i ⟨b, c, hri⟩) hi) (live j (nn j ⟨b, c', hrj⟩) hj) hri hrj
    · have h1 : s.nx + 1 ≤ i := hi
      have e1 : i ≠ s.nx := by omega
      have e2 : i ≠ id := by intro e; subst e; rw [hI.hnil i (by omega)] at hH; cases hH
      simp only [putH, e1, e2, if_false]
      exact hI.hnil i (by omega)
  refine wp_mono (h m ρ a w hI') ?_
  rintro e a' w' ⟨px, s', m', ρ', hq, hr, hI2, hA⟩
  have blk : ∀ b, Blk ρ (putH (putH s.H id (some (.var (l.set j (.own s.nx []))))) s.nx (some (.spare sz 0))) (fun _ => True) b → Blk ρ s.H (fun _ => True) b := by
    rintro b ⟨i, c, _, hl, hri⟩
    exact ⟨i, c, trivial, live i (nn i ⟨b, c, hri⟩) hl, hri⟩
  exact ⟨px, s', m', ρ', hq, hr, hI2, ⟨hA.ext.mono blk, hA.ren, fun b hb => (hA.place b hb).imp (blk b) (fun h => h), Nat.le_trans (Nat.le_succ _) hA.le, fun i hi => hA.old i (Nat.lt_succ_of_lt hi)⟩⟩

theorem byte_div16 (a : UInt8) : ((a.toNat : Int)) / 16 = ((a / 16).toNat : Int) := by rw [UInt8.toNat_div]; rfl
theorem byte_mod16 (a : UInt8) : ((a.toNat : Int)) % 16 = ((a % 16).toNat : Int) := by rw [UInt8.toNat_mod]; rfl
theorem byte_mod2 (a : UInt8) : ((a.toNat : Int)) % 2 = ((a % 2).toNat : Int) := by rw [UInt8.toNat_mod]; rfl
theorem toNat_half (i : Nat) : ((i : Int) / 2).toNat = i / 2 := by omega
theorem byte_lt (a : UInt8) : a.toNat < 256 := a.toNat_lt
theorem byteD_app (b : UInt8) : byteD b = .val (.int .u8 (b.toNat : Int)) := rfl
theorem bytesOf_one (n : Int) : bytesOf [.val (.int .u8 n)] = ⟨[UInt8.ofNat n.toNat].toArray⟩ := rfl
theorem bytesOf_two (n m : Int) : bytesOf [.val (.int .u8 n), .val (.int .u8 m)] = ⟨[UInt8.ofNat n.toNat, UInt8.ofNat m.toNat].toArray⟩ := rfl
theorem byteD_ofNat {n : Int} (h : 0 ≤ n ∧ n < 256) : byteD (UInt8.ofNat n.toNat) = .val (.int .u8 n) := by
  have e : (UInt8.ofNat n.toNat).toNat = n.toNat := by rw [UInt8.toNat_ofNat']; omega
  rw [byteD_app, e, Int.toNat_of_nonneg h.1]
theorem isBytes_one {n : Int} (h : 0 ≤ n ∧ n < 256) : isBytes [.val (.int .u8 n)] = True := by
  refine eq_true ?_
  show _ = [byteD (UInt8.ofNat n.toNat)]
  rw [byteD_ofNat h]
theorem isBytes_two {n m : Int} (h : (0 ≤ n ∧ n < 256) ∧ (0 ≤ m ∧ m < 256)) : isBytes [.val (.int .u8 n), .val (.int .u8 m)] = True := by
  refine eq_true ?_
  show _ = [byteD (UInt8.ofNat n.toNat), byteD (UInt8.ofNat m.toNat)]
  rw [byteD_ofNat h.1, byteD_ofNat h.2]
theorem isBytes_oneb (b : UInt8) : isBytes [.val (.int .u8 (b.toNat : Int))] = True := isBytes_one (by have := byte_lt b; omega)
theorem isBytes_twob (b c : UInt8) : isBytes [.val (.int .u8 (b.toNat : Int)), .val (.int .u8 (c.toNat : Int))] = True := isBytes_two (by have := byte_lt b; have := byte_lt c; omega)
theorem wrap_byte (b : UInt8) : IntKind.i64.wrap (b.toNat : Int) = (b.toNat : Int) := wrap_i64 (by have := byte_lt b; omega)
theorem spl_nil {l : List PV} : spl l 0 [] = l := by simp [spl]
theorem spl_zero {x y : PV} {l c : List PV} : spl (x :: l) 0 (y :: c) = y :: spl l 0 c := by simp [spl]
theorem spl_succ {x : PV} {l c : List PV} {n : Nat} : spl (x :: l) (n + 1) c = x :: spl l n c := by simp [spl, Nat.succ_add]
/-- An array of n bytes. -/
def arrB (P : Program) (t : TypeId) (n : Nat) : Bool :=
  match P.underlying t with
  | some (.array k e) => k == n && (match P.underlying e with | some (.int .u8) => true | _ => false) && (match P.info? e with | some _ => P.cellsOf e == 1 | none => false) && !P.eqGuardType P.depth t
  | _ => false

theorem eqItems_bytes {e : TypeId} {w : World} (he : P.underlying e = some (.int .u8)) (d : Nat) : ∀ (a b : List UInt8) (pa pb : List UInt8), a.length = b.length → pa.length = pb.length →
    (Op.eqItems (d + 1) e 1 ⟨(pa ++ a).map fun b => Value.int .u8 b.toNat⟩ ⟨(pb ++ b).map fun b => Value.int .u8 b.toNat⟩ (List.range' pa.length a.length)).run P w = .ok (a == b) w
  | [], [], pa, pb, _, _ => rfl
  | x :: a, y :: b, pa, pb, h, hp => by
    have hpk : P.plainKey e = true := by simp [Program.plainKey, he]
    have e1 : ((⟨(pa ++ x :: a).map fun b => Value.int .u8 b.toNat⟩ : Array Value)[pa.length * 1]?) = some (.int .u8 x.toNat) := by simp
    have e2 : ((⟨(pb ++ y :: b).map fun b => Value.int .u8 b.toNat⟩ : Array Value)[pa.length * 1]?) = some (.int .u8 y.toNat) := by rw [hp]; simp
    have ih := eqItems_bytes (w := w) he d a b (pa ++ [x]) (pb ++ [y]) (by simpa using h) (by simp [hp])
    simp only [List.append_assoc, List.cons_append, List.nil_append, List.length_append, List.length_cons, List.length_nil, Nat.zero_add] at ih
    simp only [List.length_cons, List.range'_succ, Op.eqItems, Sem.run_bind, run_part_plain w hpk e1, run_part_plain w hpk e2, run_equalIn_int w d e _ _ _ _ he, Result.andThen_ok]
    by_cases hx : x = y
    · subst hx
      simp only [beq_self_eq_true, Bool.not_true, Bool.false_eq_true, if_false]
      rw [ih]
      simp
    · have : (((x.toNat : Int)) == (y.toNat : Int)) = false := by rw [beq_eq_false_iff_ne]; intro e; exact hx (UInt8.toNat_inj.1 (by omega))
      rw [this]
      have h2 : (x :: a == y :: b) = false := by simp [hx]
      rw [h2]
      rfl
  | [], _ :: _, _, _, h, _ => by simp at h
  | _ :: _, [], _, _, h, _ => by simp at h

theorem EqRun.bytes {t : TypeId} {n : Nat} (h : arrB P t n = true) (a b : List UInt8) (ha : a.length = n) (hb : b.length = n) : EqRun P t (.agg (a.map byteD)) (.agg (b.map byteD)) (a == b) := by
  unfold arrB at h
  split at h
  · rename_i k e hu
    simp only [Bool.and_eq_true, beq_iff_eq, Bool.not_eq_true'] at h
    obtain ⟨⟨⟨rfl, h2⟩, h3⟩, h4⟩ := h
    have he : P.underlying e = some (.int .u8) := by
      split at h2
      · assumption
      · cases h2
    split at h3
    · rename_i i hi
      have hc : P.cellsOf e = 1 := by simpa using h3
      refine ⟨h4, fun m w v u hv hu' => ?_⟩
      simp only [RepD] at hv hu'
      obtain ⟨vs, rfl, hvs, _⟩ := hv
      obtain ⟨us, rfl, hus, _⟩ := hu'
      refine ⟨_, _, rfl, rfl, ?_⟩
      have e1 := repL_bytes hvs
      have e2 := repL_bytes hus
      subst e1; subst e2
      show (Op.equalIn (9998 + 1 + 1) t _ _).run P w = _
      rw [run_equalIn_array w (9998 + 1) _ _ hu hi, hc, List.range_eq_range']
      have := eqItems_bytes (w := w) he 9998 a b [] [] (by omega) rfl
      simp only [List.nil_append, List.length_nil] at this
      rw [← ha]
      exact this
    · cases h3
  · cases h
theorem shr4'' (a : UInt8) : ((a.toNat : Int)).fdiv (2 ^ (min 4 8)) = (a / 16).toNat := shr4 a
theorem shl4'' (a : UInt8) : IntKind.u8.wrap ((a.toNat : Int) * 2 ^ (min 4 8)) = (a * 16).toNat := shl4 a
theorem EndsX.at {rs : List ResultVar} {post : Out → HM → Nat → Prop} {px : PX} (hx : px = .ret ∨ px = .normal) (hd : s.df = []) (h1 : (resP P rs s).2) (h2 : post (.ret (resP P rs s).1) s.H s.nx) : EndsX P rs post px s := by
  rcases hx with rfl | rfl
  · exact ⟨hd, h1, s.H, fun _ => .inr rfl, h2⟩
  · exact ⟨hd, h1, s.H, fun _ => .inr rfl, h2⟩
attribute [go_sem] Int.natCast_zero Int.cast_ofNat_Int List.all_cons List.all_nil shr4'' shl4'' wrap_byte spl_nil spl_zero spl_succ bytesOf_one bytesOf_two isBytes_one isBytes_two isBytes_oneb isBytes_twob UInt8.ofNat_toNat byteD_app List.size_toArray byte_div16 byte_mod16 toNat_half Int.tdiv_eq_ediv_of_nonneg Int.tmod_eq_emod_of_nonneg wrap_toNat or_u8' and_u8' and15' shr4' shl4' atS_nil atS_cons atH_nil atH_cons str_toList str_size str_append str_extract drop_all str_data str_inj i64_max puts puths all_byte getD_byte stepF toNat_add1 partsP partsQ solids keysOf rng_0 rng_1 rng_2 rng_3 rng_4 rng_5 rng_6 rng_7 rng_8 eq_self true_implies false_implies Int.toNat_natCast Op.operands Call.operands Array.toList_append List.nil_append List.append_nil guardF condsOK asCond unS unT unC pureF evP ofVal isEq aggy frozenDst binX eqlX eqOut bin un pickP extractP builtinF lenF PV.elems loadD loadV cellV fieldAddrP indexAddrP fieldP indexP partD partP noNil nilOf convF slcF bnd buildP fillP placeOf cloP PV.cellsP PV.solid PV.toD PV.toDs PV.more cells_val cells_agg cells_slice cells_cptr cells_clo cells_iface putS_at putS_none putH_at initS_zero initS_succ initP_zero initP_succ Nat.one_ne_zero Nat.zero_ne_one if_true if_false and_true true_and and_self Bool.and_true Bool.true_and Bool.and_false Bool.false_and Bool.false_eq_true beq_self_eq_true Bool.not_true Bool.not_false Bool.not_eq_true Bool.not_eq_false Bool.cond_true Bool.cond_false List.map_cons List.map_nil List.length_cons List.length_nil List.length_map decide_true decide_false List.drop_zero List.drop_succ_cons List.headD_cons List.getD_cons_zero List.getD_cons_succ forall_const imp_self ne_eq not_true not_false_eq_true Option.map_some Option.map_none List.cons_append and_assoc appendF Side notInt toDs_d getD_byte' take_byte Nat.mul_one List.forall_mem_cons List.not_mem_nil List.mem_cons forall_eq_or_imp forall_eq implies_true Option.some.injEq HO.spare.injEq Value.oneCell' map_append_one map_append_two map_append_row u8s_one u8s_cellV spl_bytes take_dbytes List.length_replicate maxLen_val bytesOf_map isBytes_map wrap_i64 wrap_u64 wrap_u8
end Go.Proofs.Ytonlehebfeilmaa.K
