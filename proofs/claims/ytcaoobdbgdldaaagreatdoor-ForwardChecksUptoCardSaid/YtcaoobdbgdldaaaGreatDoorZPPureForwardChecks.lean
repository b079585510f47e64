/- Part of the proof of ForwardChecks: what the law uses of the text PureForwardChecks. -/
import Derived.Test.YtcaoobdbgdldaaaGreatDoorZPP3
namespace Go.Proofs.YtcaoobdbgdldaaaGreatDoor.Pure
open Go.RowKit Go.Proofs.YtcaoobdbgdldaaaGreatDoor.P Go.Proofs.YtcaoobdbgdldaaaGreatDoor.Lit Go.Proofs.YtcaoobdbgdldaaaGreatDoor.Spr Go.Proofs.YtcaoobdbgdldaaaGreatDoor.Fwd Go.Proofs.YtcaoobdbgdldaaaGreatDoorW.PrintWords
set_option linter.unusedVariables false

theorem ForwardChecks (v : Int) (cs : List (List Int)) (l : List S42) (h1 : cs.length ≤ 2097152) (h2 : ∀ c ∈ cs, c.length ≤ 2097152) (h3 : l.length ≤ 2097152) (h4 : ∀ s ∈ l, s.f1.length ≤ 2097152) : ∃ k, depotlaw11_ForwardChecks.f k v cs l = some true := by
  have hcf : CFits cs l := ⟨h1, h2, h3, h4⟩
  have hck : forward_Check.f v cs l = some (checkW v cs (l.map fun s => (s.f0, s.f1))) := by unfold forward_Check.f; rw [if_pos hcf]
  have hcr : depotref11_Check.f v cs l = some (checkW v cs (l.map fun s => (s.f0, s.f1))) := by unfold depotref11_Check.f; rw [if_pos hcf]
  have hsm : forward_Check.f 2 [[1, 2], [-1, 2], [1, -2], [-1, -2]] [⟨false, [2]⟩, ⟨false, []⟩] = some (1, 1, 0) := by decide +kernel
  refine Ev.rounds ?_
  refine Ev.congr (f := fun k => depotlaw11_ForwardChecks.j0 k l false v cs) (fun k => ?_) ?_
  · unfold depotlaw11_ForwardChecks.f depotlaw11_small.f
    rw [Option.bind_some, hsm, Option.bind_some]
    rfl
  refine Ev.step (f := fun _ => some true) (fun k => ?_) (Ev.now _)
  simp only [depotlaw11_ForwardChecks.j0]
  rw [if_neg (by decide), hck, Option.bind_some, hcr, Option.bind_some]
  simp

end Go.Proofs.YtcaoobdbgdldaaaGreatDoor.Pure
