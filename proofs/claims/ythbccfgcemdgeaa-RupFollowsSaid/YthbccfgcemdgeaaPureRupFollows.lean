/- RupFollows as a plain statement: the law's plain function answers true. -/
import Derived.Test.YthbccfgcemdgeaaRefE
import Derived.Test.YthbccfgcemdgeaaP17
import Derived.Test.YthbccfgcemdgeaaP19
namespace Go.Proofs.Ythbccfgcemdgeaa.Pure
open Go.RowKit Go.Proofs.Ythbccfgcemdgeaa.P Go.Proofs.Ythbccfgcemdgeaa.Lit Go.Proofs.Ythbccfgcemdgeaa.Spr Go.Proofs.Ythbccfgcemdgeaa.Rf Go.Proofs.YthbccfgcemdgeaaW.PrintWords Go.Proofs.YthbccfgcemdgeaaW.PrintLast

theorem fit08 (v : Int) {cs : List (List Int)} {c : List Int} (h : Fits cs c) : rup_fit.f v cs c = some (formedB v cs && c.all fm) := by
  unfold rup_fit.f cnf_Formed.f lits_Sound.f
  rw [if_pos (show Fits cs [] from ⟨h.1, h.2.1, by simp⟩), Option.bind_some]
  by_cases h1 : formedB v cs = true
  · rw [if_pos h1, if_pos (show Fits [] c from ⟨by simp, (fun x hx => by cases hx), h.2.2⟩), Option.bind_some, h1, Bool.true_and]
  · rw [if_neg h1, Bool.eq_false_iff.2 h1, Bool.false_and]
theorem Follows_p (v : Int) {cs : List (List Int)} {c : List Int} (h : Fits cs c) : rup_Follows.f v cs c = some (followsA v cs c) := by
  unfold rup_Follows.f followsA
  rw [fit08 v h, Option.bind_some]
  by_cases h1 : formedB v cs = true
  · rw [if_pos h1, h1, Bool.true_and]
    by_cases h2 : c.all fm = true
    · rw [if_pos h2, if_pos h2]
      unfold rup_follows.f
      rw [if_pos h, if_pos h2, Option.bind_some]
    · rw [if_neg h2, if_neg h2]
  · rw [if_neg h1, Bool.eq_false_iff.2 h1, Bool.false_and, if_neg (by decide)]

theorem RupFollows (v : Int) (cs : List (List Int)) (c : List Int) (h24 : cs.length * 24 ≤ 140737488351232) (h8 : ∀ x ∈ cs, x.length * 8 ≤ 140737488351232) (hF : c.length * 8 ≤ 140737488351232) : ∃ k, depotlaw08_RupFollows.f k v cs c = some true := by
  have hfit : Fits cs c := fitsE h24 h8 (by omega)
  have hsm : rup_Follows.f 2 [[-1, 2]] [2, -1] = some (true, 0) := by decide +kernel
  refine Ev.rounds ?_
  refine Ev.congr (f := fun k => depotlaw08_RupFollows.j0 k c (((0 : Int)) != 0) v cs) (fun k => ?_) ?_
  · unfold depotlaw08_RupFollows.f depotlaw08_small.f
    rw [Option.bind_some, hsm, Option.bind_some, if_pos rfl]
  refine Ev.step (fun k => ?_) (Ev.bind (Follows08 v cs c (by omega) (fun x hx => by have := h8 x hx; omega) (by omega)) (f := fun k b => if ((followsA v cs c).1 == b.1) = true then some ((followsA v cs c).2 == b.2) else some false) ?_)
  · simp only [depotlaw08_RupFollows.j0]
    rw [if_neg (by decide), Follows_p v hfit, Option.bind_some]
  · exact Ev.congr (fun k => by rw [if_pos (beq_self_eq_true _), beq_self_eq_true]) (Ev.now _)

end Go.Proofs.Ythbccfgcemdgeaa.Pure
