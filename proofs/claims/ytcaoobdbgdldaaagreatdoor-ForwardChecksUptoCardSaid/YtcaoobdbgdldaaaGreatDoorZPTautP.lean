/- Part of the proof of ForwardChecks: what the law uses of the text TautP. -/
import Derived.Test.YtcaoobdbgdldaaaGreatDoorZPJUpA
namespace Go.Proofs.YtcaoobdbgdldaaaGreatDoor.Spr
open Go.RowKit Go.Maps Go.Proofs.YtcaoobdbgdldaaaGreatDoor.Lit Go.Shelf Go.Proofs
set_option linter.unusedVariables false

def SafePost (w : World) (b : Bool) (e : Ending) (w' : World) : Prop := e = .returned (.bool b) ∧ Below w.heap.size w w'

end Go.Proofs.YtcaoobdbgdldaaaGreatDoor.Spr
