/- Part of the proof of ForwardStays: what the law uses of the text FwR. -/
import Derived.Test.YtcaoobdbgdldaaaDoorZPFwO
import Derived.Deep.DeepCutAuto
import Derived.Deep.CutBlock
import Derived.Deep.RegionHeld3
namespace Go.Proofs.YtcaoobdbgdldaaaDoor.Fwd
open Go.RowKit Go.Shelf Go.Maps Go.Proofs.YtcaoobdbgdldaaaDoor.Lit Go.Proofs.YtcaoobdbgdldaaaDoor.Spr Go.Proofs.YtcaoobdbgdldaaaDoor.P Go.Proofs.YtcaoobdbgdldaaaDoorW.PrintWords Go.Proofs.YtcaoobdbgdldaaaDoorW.PrintLast
set_option linter.unusedVariables false
set_option linter.unusedSimpArgs false

def stp (l : List S37) : List (Bool × List Int) := l.map fun s => (s.f0, s.f1)
theorem stp_len (l : List S37) : (stp l).length = l.length := List.length_map _
theorem stp_8 {l : List S37} {n : Nat} (h : ∀ s ∈ l, s.f1.length ≤ n) : ∀ s ∈ stp l, s.2.length ≤ n := fun s hs => by
  obtain ⟨x, hx, rfl⟩ := List.mem_map.1 hs
  exact h x hx

end Go.Proofs.YtcaoobdbgdldaaaDoor.Fwd
