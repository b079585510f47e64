/- Part of the proof of ForwardStays: what the law uses of the text TautP. -/
import Derived.Test.YtcaoobdbgdldaaaDoorZPJoin
import Derived.Test.YtcaoobdbgdldaaaDoorZPUpD
namespace Go.Proofs.YtcaoobdbgdldaaaDoor.Spr
open Go.RowKit Go.Maps Go.Proofs.YtcaoobdbgdldaaaDoor.Lit Go.Shelf Go.Proofs
set_option linter.unusedVariables false

def SafePost (w : World) (b : Bool) (e : Ending) (w' : World) : Prop := e = .returned (.bool b) ∧ Below w.heap.size w w'

end Go.Proofs.YtcaoobdbgdldaaaDoor.Spr
