/- Pure values, what they stand for in memory, and that this stays when memory grows. -/
import Derived.WalkKit
import Derived.Orders
namespace Go.Proofs.Ytonlehebfeilmaa.K
open Go

/-- Closed data. -/
inductive D where
  | val (v : Value)
  | agg (l : List D)
  | slice (l : List D)
  | cptr (l : List D)
  | clo (f : Nat) (l : List D)
  | iface (t : Nat) (x : D)
  | tuple (l : List D)
  deriving Inhabited

abbrev Mem := Nat → Nat → Option Value
abbrev Ren := Nat → Option (Nat × Nat)

/-- The cells of a datum. -/
def D.cells : D → List D
  | .agg l => l
  | x => [x]

mutual
def RepD (m : Mem) : D → Value → Prop
  | .val x, v => v = x
  | .agg l, v => ∃ vs : List Value, v = .agg ⟨vs⟩ ∧ RepL m l vs ∧ ∀ u ∈ vs, u.oneCell' = true
  | .slice l, v => ∃ (a : Option Addr) (c : Nat), v = .slice a l.length c ∧ l.length ≤ c ∧ (l = [] ∨ ∃ b o, a = some ⟨b, o, none⟩ ∧ RepE m b l o)
  | .cptr l, v => ∃ b o, v = .pointer (some ⟨b, o, none⟩) ∧ RepC m b l o
  | .clo f l, v => ∃ vs : List Value, v = .func (.func f) #[] ⟨vs⟩ ∧ RepL m l vs
  | .iface t x, v => ∃ u, v = .iface t u ∧ RepD m x u
  | .tuple l, v => ∃ vs : List Value, v = .tuple ⟨vs⟩ ∧ RepL m l vs
def RepL (m : Mem) : List D → List Value → Prop
  | [], vs => vs = []
  | x :: r, vs => ∃ v vr, vs = v :: vr ∧ RepD m x v ∧ RepL m r vr
def RepC (m : Mem) (b : Nat) : List D → Nat → Prop
  | [], _ => True
  | x :: r, o => (∃ v, m b o = some v ∧ RepD m x v) ∧ RepC m b r (o + 1)
def RepE (m : Mem) (b : Nat) : List D → Nat → Prop
  | [], _ => True
  | .agg l :: r, o => RepC m b l o ∧ RepE m b r (o + l.length)
  | x :: r, o => (∃ v, m b o = some v ∧ RepD m x v) ∧ RepE m b r (o + 1)
end

def Mem.le (m m' : Mem) : Prop := ∀ b o v, m b o = some v → m' b o = some v

theorem Mem.le_refl (m : Mem) : m.le m := fun _ _ _ h => h
theorem Mem.le_trans {a b c : Mem} (h : a.le b) (k : b.le c) : a.le c := fun x o v e => k x o v (h x o v e)

mutual
theorem RepD.mono {m m' : Mem} (h : m.le m') : ∀ (x : D) (v : Value), RepD m x v → RepD m' x v
  | .val x, v, e => by simpa [RepD] using e
  | .agg l, v, e => by
    simp only [RepD] at e ⊢
    obtain ⟨vs, e1, e2, e3⟩ := e
    exact ⟨vs, e1, RepL.mono h l vs e2, e3⟩
  | .slice l, v, e => by
    simp only [RepD] at e ⊢
    obtain ⟨a, c, e1, e0, e2⟩ := e
    refine ⟨a, c, e1, e0, e2.imp id ?_⟩
    rintro ⟨b, o, e3, e4⟩
    exact ⟨b, o, e3, RepE.mono h b l o e4⟩
  | .cptr l, v, e => by
    simp only [RepD] at e ⊢
    obtain ⟨b, o, e1, e2⟩ := e
    exact ⟨b, o, e1, RepC.mono h b l o e2⟩
  | .clo f l, v, e => by
    simp only [RepD] at e ⊢
    obtain ⟨vs, e1, e2⟩ := e
    exact ⟨vs, e1, RepL.mono h l vs e2⟩
  | .iface t x, v, e => by
    simp only [RepD] at e ⊢
    obtain ⟨u, e1, e2⟩ := e
    exact ⟨u, e1, RepD.mono h x u e2⟩
  | .tuple l, v, e => by
    simp only [RepD] at e ⊢
    obtain ⟨vs, e1, e2⟩ := e
    exact ⟨vs, e1, RepL.mono h l vs e2⟩
theorem RepL.mono {m m' : Mem} (h : m.le m') : ∀ (l : List D) (vs : List Value), RepL m l vs → RepL m' l vs
  | [], vs, e => by simpa [RepL] using e
  | x :: r, vs, e => by
    simp only [RepL] at e ⊢
    obtain ⟨v, vr, e1, e2, e3⟩ := e
    exact ⟨v, vr, e1, RepD.mono h x v e2, RepL.mono h r vr e3⟩
theorem RepC.mono {m m' : Mem} (h : m.le m') (b : Nat) : ∀ (l : List D) (o : Nat), RepC m b l o → RepC m' b l o
  | [], o, e => by simp [RepC]
  | x :: r, o, e => by
    simp only [RepC] at e ⊢
    obtain ⟨⟨v, e1, e2⟩, e3⟩ := e
    exact ⟨⟨v, h _ _ _ e1, RepD.mono h x v e2⟩, RepC.mono h b r _ e3⟩
theorem RepE.mono {m m' : Mem} (h : m.le m') (b : Nat) : ∀ (l : List D) (o : Nat), RepE m b l o → RepE m' b l o
  | [], o, e => by simp [RepE]
  | .agg l :: r, o, e => by
    simp only [RepE] at e ⊢
    exact ⟨RepC.mono h b l o e.1, RepE.mono h b r _ e.2⟩
  | .val x :: r, o, e => by
    simp only [RepE] at e ⊢
    obtain ⟨⟨v, e1, e2⟩, e3⟩ := e
    exact ⟨⟨v, h _ _ _ e1, RepD.mono h _ v e2⟩, RepE.mono h b r _ e3⟩
  | .slice x :: r, o, e => by
    simp only [RepE] at e ⊢
    obtain ⟨⟨v, e1, e2⟩, e3⟩ := e
    exact ⟨⟨v, h _ _ _ e1, RepD.mono h _ v e2⟩, RepE.mono h b r _ e3⟩
  | .cptr x :: r, o, e => by
    simp only [RepE] at e ⊢
    obtain ⟨⟨v, e1, e2⟩, e3⟩ := e
    exact ⟨⟨v, h _ _ _ e1, RepD.mono h _ v e2⟩, RepE.mono h b r _ e3⟩
  | .clo f x :: r, o, e => by
    simp only [RepE] at e ⊢
    obtain ⟨⟨v, e1, e2⟩, e3⟩ := e
    exact ⟨⟨v, h _ _ _ e1, RepD.mono h _ v e2⟩, RepE.mono h b r _ e3⟩
  | .iface t x :: r, o, e => by
    simp only [RepE] at e ⊢
    obtain ⟨⟨v, e1, e2⟩, e3⟩ := e
    exact ⟨⟨v, h _ _ _ e1, RepD.mono h _ v e2⟩, RepE.mono h b r _ e3⟩
  | .tuple x :: r, o, e => by
    simp only [RepE] at e ⊢
    obtain ⟨⟨v, e1, e2⟩, e3⟩ := e
    exact ⟨⟨v, h _ _ _ e1, RepD.mono h _ v e2⟩, RepE.mono h b r _ e3⟩
end
end Go.Proofs.Ytonlehebfeilmaa.K
