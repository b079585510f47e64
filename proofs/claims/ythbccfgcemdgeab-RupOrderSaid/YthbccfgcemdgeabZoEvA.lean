/- Part of the proof of RupOrder: what the law uses of the text EvA. -/
import Derived.Test.YthbccfgcemdgeabZoP0
import Derived.Test.YthbccfgcemdgeabZoUpA
namespace Go.Proofs.Ythbccfgcemdgeab.Rf
open Go.RowKit Go.Proofs.Ythbccfgcemdgeab.P Go.Proofs.Ythbccfgcemdgeab.Lit Go.Proofs.Ythbccfgcemdgeab.Spr Go.Proofs.YthbccfgcemdgeabW.PrintWords Go.Proofs.YthbccfgcemdgeabW.PrintLast
set_option linter.unusedVariables false
set_option linter.unusedSimpArgs false

theorem wrap_nat {n : Nat} (h : n < 9223372036854775807) : wrap64 ((n : Int) + 1) = ((n + 1 : Nat) : Int) := by unfold wrap64; omega
theorem rd_nat (xs : List Int) (n : Nat) : rd xs (n : Int) = xs.getD n 0 := by simp [rd]
theorem rdL_nat (xs : List (List Int)) (n : Nat) : rd_L1 xs (n : Int) = xs.getD n [] := by simp [rd_L1]
theorem drop_get {α : Type} {xs : List α} {n : Nat} (d : α) (h : n < xs.length) : xs.drop n = xs.getD n d :: xs.drop (n + 1) := by
  rw [List.drop_eq_getElem_cons h, List.getD_eq_getElem?_getD, List.getElem?_eq_getElem h]; rfl
theorem get_mem {α : Type} {xs : List α} {n : Nat} (d : α) (h : n < xs.length) : xs.getD n d ∈ xs := by
  rw [List.getD_eq_getElem?_getD, List.getElem?_eq_getElem h]; exact List.getElem_mem h

end Go.Proofs.Ythbccfgcemdgeab.Rf
