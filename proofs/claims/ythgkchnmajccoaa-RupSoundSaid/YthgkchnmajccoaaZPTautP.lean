/- Part of the proof of RupSound: what the law uses of the text TautP. -/
import Derived.Test.YthgkchnmajccoaaZPJoin
import Derived.Test.YthgkchnmajccoaaZPUpD
namespace Go.Proofs.Ythgkchnmajccoaa.Spr
open Go.RowKit Go.Maps Go.Proofs.Ythgkchnmajccoaa.Lit Go.Shelf Go.Proofs
set_option linter.unusedVariables false

def SafePost (w : World) (b : Bool) (e : Ending) (w' : World) : Prop := e = .returned (.bool b) ∧ Below w.heap.size w w'

end Go.Proofs.Ythgkchnmajccoaa.Spr
