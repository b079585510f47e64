/- The numbers that this layer goes by stand as written, and one named closing answers as the document says. -/
import Derived.Test.YthbccfgcemdgeaaP4
namespace Go.Proofs.Ythbccfgcemdgeaa.Pure
open Go.RowKit Go.Proofs.Ythbccfgcemdgeaa.P Go.Proofs.YthbccfgcemdgeaaW.PrintWords Go.Proofs.YthbccfgcemdgeaaW.PrintLast

theorem awake_some : depotlaw06_awake.f 10 = some true := by decide +kernel
theorem UnitNumbers : depotlaw06_UnitNumbers.Pure := by
  refine ⟨10, ?_⟩
  unfold depotlaw06_UnitNumbers.f
  rw [awake_some]
  rfl

end Go.Proofs.Ythbccfgcemdgeaa.Pure
