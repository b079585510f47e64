/- Part of the proof of UnderHolds: what the law uses of the text PureUnderHolds. -/
import Derived.Test.YtjhmkhbmjopmkaaGreatDoorZPRefT
import Derived.Test.YtjhmkhbmjopmkaaGreatDoorZPP2
namespace Go.Proofs.YtjhmkhbmjopmkaaGreatDoor.Pure
open Go.RowKit Go.Proofs.YtjhmkhbmjopmkaaGreatDoor.P Go.Proofs.YtjhmkhbmjopmkaaGreatDoor.Lit Go.Proofs.YtjhmkhbmjopmkaaGreatDoor.Spr Go.Proofs.YtjhmkhbmjopmkaaGreatDoor.Rf Go.Proofs.YtjhmkhbmjopmkaaGreatDoorW.PrintWords
set_option linter.unusedVariables false

theorem UnderHolds (v : Int) (cs : List (List Int)) (fl : List Int) (l : List S32) (h1 : cs.length ≤ 2097152) (h2 : ∀ c ∈ cs, c.length ≤ 2097152) (h3 : fl.length ≤ 2097152) (h4 : l.length ≤ 2097152) (h5 : ∀ s ∈ l, s.f1.length ≤ 2097152) : ∃ k, depotlaw18_UnderHolds.f k v cs fl l = some true := by
  have hf : UFits cs fl l := ⟨h1, h2, h3, h4, h5⟩
  have hu : under_Holds.f v cs fl l = some (Uh.holdsW v cs fl (l.map fun s => (s.f0, s.f1))) := by unfold under_Holds.f; rw [if_pos hf]
  have hr : depotref18_Holds.f v cs fl l = some (Uh.holdsW v cs fl (l.map fun s => (s.f0, s.f1))) := by unfold depotref18_Holds.f; rw [if_pos hf]
  have hsm : under_Holds.f 2 [[-1, -2]] [1, 2] [⟨false, [-2, -1]⟩] = some true := by decide +kernel
  refine Ev.rounds ?_
  unfold depotlaw18_UnderHolds.f
  refine Ev.bind (copyFormula v cs (by omega) (fun c hc => by have := h2 c hc; omega)) ?_
  refine Ev.bind (copyInts fl (by omega)) ?_
  refine Ev.bind (copySteps l (by omega) (fun s hs => by have := h5 s hs; omega)) ?_
  refine Ev.congr (f := fun _ => some true) (fun k => ?_) (Ev.now _)
  dsimp only
  rw [hu, Option.bind_some, hsm, Option.bind_some, hr, Option.bind_some, if_pos (beq_self_eq_true _)]

end Go.Proofs.YtjhmkhbmjopmkaaGreatDoor.Pure
