/- Part of the proof of RupOrder: what the law uses of the text RupP. -/
import Derived.Test.YthbccfgcemdgeabZoFolP
import Derived.Test.YthbccfgcemdgeabZoPortsS
import Derived.Test.YthbccfgcemdgeabZoP1
namespace Go.Proofs.Ythbccfgcemdgeab.Rf
open Go.RowKit Go.Proofs.Ythbccfgcemdgeab.P Go.Proofs.Ythbccfgcemdgeab.Lit Go.Proofs.Ythbccfgcemdgeab.Spr Go.Proofs.YthbccfgcemdgeabW.PrintWords Go.Proofs.YthbccfgcemdgeabW.PrintLast
set_option linter.unusedVariables false
set_option linter.unusedSimpArgs false

def kindA (v : Int) (cs : List (List Int)) (c : List Int) : Int × Int := if formedB v cs = true then (if c.all fm = true then (if followsR v cs c = true then (1, 0) else if safeR v cs c = true then (2, 0) else (0, 0)) else (0, 1)) else (0, 1)
theorem fit08 (v : Int) {cs : List (List Int)} {c : List Int} (h : Fits cs c) : rup_fit.f v cs c = some (formedB v cs && c.all fm) := by
  unfold rup_fit.f cnf_Formed.f lits_Sound.f
  rw [if_pos (show Fits cs [] from ⟨h.1, h.2.1, by simp⟩), Option.bind_some]
  by_cases h1 : formedB v cs = true
  · rw [if_pos h1, if_pos (show Fits [] c from ⟨by simp, (fun x hx => by cases hx), h.2.2⟩), Option.bind_some, h1, Bool.true_and]
  · rw [if_neg h1, Bool.eq_false_iff.2 h1, Bool.false_and]
theorem Kind_p (v : Int) {cs : List (List Int)} {c : List Int} (h : Fits cs c) : rup_Kind.f v cs c = some (kindA v cs c) := by
  unfold rup_Kind.f kindA
  rw [fit08 v h, Option.bind_some]
  by_cases h1 : formedB v cs = true
  · rw [if_pos h1, h1, Bool.true_and]
    by_cases h2 : c.all fm = true
    · rw [if_pos h2, if_pos h2]
      unfold rup_follows.f rup_safe.f
      rw [if_pos h, if_pos h2, Option.bind_some, if_pos h, if_pos h2, Option.bind_some]
      by_cases h3 : followsR v cs c = true
      · rw [if_pos h3, if_pos h3]
      · rw [if_neg h3, if_neg h3]
        by_cases h4 : safeR v cs c = true
        · rw [if_pos h4, if_pos h4]
        · rw [if_neg h4, if_neg h4]
    · rw [if_neg h2, if_neg h2]
  · rw [if_neg h1, Bool.eq_false_iff.2 h1, Bool.false_and, if_neg (by decide)]

end Go.Proofs.Ythbccfgcemdgeab.Rf
