/- Package rlp: what is laid, and that it is read again. -/
import Derived.Test.YtfnlcnnoedmfiaaAPRlp
namespace Go.Proofs.Ytfnlcnnoedmfiaa.K
open Go Go.RowKit
set_option linter.unusedSimpArgs false
set_option linter.unusedVariables false
mutual
def ienc : Item → List UInt8
  | ⟨l, s, r⟩ => if l = false then (if s.length = 1 ∧ (s.getD 0 0).toNat < 128 then s else hd false s.length ++ s) else hd true (iencs r).length ++ iencs r
def iencs : List Item → List UInt8
  | [] => []
  | x :: r => ienc x ++ iencs r
end
theorem ienc_eq (x : Item) : ienc x = if x.fList = false then (if x.fS.length = 1 ∧ (x.fS.getD 0 0).toNat < 128 then x.fS else hd false x.fS.length ++ x.fS) else hd true (iencs x.fL).length ++ iencs x.fL := by
  cases x; simp only [ienc]
def RT : Nat → Item → Prop
  | 0, _ => False
  | n + 1, x => (x.fList = false → x.fL = []) ∧ (x.fList = true → x.fS = []) ∧ ∀ y ∈ x.fL, RT n y
theorem hd_ne (l : Bool) (k : Nat) : hd l k ≠ [] := by unfold hd; split <;> simp
theorem hd_len (l : Bool) (k : Nat) : (hd l k).length = if k < 56 then 1 else 1 + (bigN k).length := by
  unfold hd; split <;> simp; omega
theorem big5 {k : Nat} (h : k ≤ 2 ^ 32) : (bigN k).length ≤ 5 := bigN_len 5 k (by rw [show (256 : Nat) ^ 5 = 1099511627776 from by decide]; omega)
theorem hd_le (l : Bool) {k : Nat} (h : k ≤ 2 ^ 32) : (hd l k).length ≤ 6 := by
  have := big5 h
  rw [hd_len]; split <;> omega
theorem ienc_ne (x : Item) : ienc x ≠ [] := by
  rw [ienc_eq]
  split
  · split
    · rename_i h; intro e; rw [e] at h; simp at h
    · intro e; exact hd_ne _ _ (List.append_eq_nil_iff.1 e).1
  · intro e; exact hd_ne _ _ (List.append_eq_nil_iff.1 e).1
end Go.Proofs.Ytfnlcnnoedmfiaa.K
