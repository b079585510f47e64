/- Part of the proof of RupGrows: what the law uses of the text RupP. -/
import Derived.Test.YthbccfgcemdgeabZgFolP
import Derived.Test.YthbccfgcemdgeabZgPortsS
import Derived.Test.YthbccfgcemdgeabZgP1
namespace Go.Proofs.Ythbccfgcemdgeab.Rf
open Go.RowKit Go.Proofs.Ythbccfgcemdgeab.P Go.Proofs.Ythbccfgcemdgeab.Lit Go.Proofs.Ythbccfgcemdgeab.Spr Go.Proofs.YthbccfgcemdgeabW.PrintWords Go.Proofs.YthbccfgcemdgeabW.PrintLast
set_option linter.unusedVariables false
set_option linter.unusedSimpArgs false

def safeA (v : Int) (cs : List (List Int)) (c : List Int) : Bool × Int := if formedB v cs = true then (if c.all fm = true then (safeR v cs c, 0) else (false, 1)) else (false, 1)
theorem fit08 (v : Int) {cs : List (List Int)} {c : List Int} (h : Fits cs c) : rup_fit.f v cs c = some (formedB v cs && c.all fm) := by
  unfold rup_fit.f cnf_Formed.f lits_Sound.f
  rw [if_pos (show Fits cs [] from ⟨h.1, h.2.1, by simp⟩), Option.bind_some]
  by_cases h1 : formedB v cs = true
  · rw [if_pos h1, if_pos (show Fits [] c from ⟨by simp, (fun x hx => by cases hx), h.2.2⟩), Option.bind_some, h1, Bool.true_and]
  · rw [if_neg h1, Bool.eq_false_iff.2 h1, Bool.false_and]
theorem Safe_p (v : Int) {cs : List (List Int)} {c : List Int} (h : Fits cs c) : rup_Safe.f v cs c = some (safeA v cs c) := by
  unfold rup_Safe.f safeA
  rw [fit08 v h, Option.bind_some]
  by_cases h1 : formedB v cs = true
  · rw [if_pos h1, h1, Bool.true_and]
    by_cases h2 : c.all fm = true
    · rw [if_pos h2, if_pos h2]
      unfold rup_safe.f
      rw [if_pos h, if_pos h2, Option.bind_some]
    · rw [if_neg h2, if_neg h2]
  · rw [if_neg h1, Bool.eq_false_iff.2 h1, Bool.false_and, if_neg (by decide)]
theorem Follows_p (v : Int) {cs : List (List Int)} {c : List Int} (h : Fits cs c) : rup_Follows.f v cs c = some (followsA v cs c) := by
  unfold rup_Follows.f followsA
  rw [fit08 v h, Option.bind_some]
  by_cases h1 : formedB v cs = true
  · rw [if_pos h1, h1, Bool.true_and]
    by_cases h2 : c.all fm = true
    · rw [if_pos h2, if_pos h2]
      unfold rup_follows.f
      rw [if_pos h, if_pos h2, Option.bind_some]
    · rw [if_neg h2, if_neg h2]
  · rw [if_neg h1, Bool.eq_false_iff.2 h1, Bool.false_and, if_neg (by decide)]

end Go.Proofs.Ythbccfgcemdgeab.Rf
