/- Part of the proof of RupOrder: what the law uses of the text RupM. -/
import Derived.Test.YthbccfgcemdgeabZoFolP
import Derived.Test.YthbccfgcemdgeabZoBlocked
namespace Go.Proofs.Ythbccfgcemdgeab.Rf
open Go.RowKit Go.Proofs.Ythbccfgcemdgeab.Lit Go.Proofs.Ythbccfgcemdgeab.Spr
set_option linter.unusedVariables false
set_option linter.unusedSimpArgs false

theorem mem_negL {c : List Int} {x : Int} : x ∈ negL c ↔ -x ∈ c := by
  unfold negL
  rw [List.mem_map]
  constructor
  · rintro ⟨y, hy, rfl⟩; simpa using hy
  · intro h; exact ⟨-x, h, by omega⟩
theorem mem_hasB {d : List Int} {l : Int} : hasB d l = true ↔ fm l = true ∧ l ∈ d := by
  unfold hasB; rw [Bool.and_eq_true]; simp
end Go.Proofs.Ythbccfgcemdgeab.Rf
