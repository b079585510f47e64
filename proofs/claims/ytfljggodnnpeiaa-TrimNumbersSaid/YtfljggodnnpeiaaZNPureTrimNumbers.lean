/- Part of the proof of TrimNumbers: what the law uses of the text PureTrimNumbers. -/
import Derived.Test.YtfljggodnnpeiaaZNPortsV
import Derived.Test.YtfljggodnnpeiaaZNP3
namespace Go.Proofs.Ytfljggodnnpeiaa.Pure
open Go.RowKit Go.Proofs.Ytfljggodnnpeiaa.P Go.Proofs.YtfljggodnnpeiaaW.PrintWords Go.Proofs.YtfljggodnnpeiaaW.PrintLast

theorem awake12_some : depotlaw12_awake.f 10 = some true := by decide +kernel
theorem TrimNumbers : depotlaw12_TrimNumbers.Pure := by
  refine ⟨10, ?_⟩
  unfold depotlaw12_TrimNumbers.f
  rw [awake12_some]
  rfl

end Go.Proofs.Ytfljggodnnpeiaa.Pure
