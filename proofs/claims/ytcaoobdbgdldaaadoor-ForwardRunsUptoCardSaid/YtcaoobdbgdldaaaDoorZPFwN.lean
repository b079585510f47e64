/- Part of the proof of ForwardRuns: what the law uses of the text FwN. -/
import Derived.Test.YtcaoobdbgdldaaaDoorZPFwK
import Derived.Test.YtcaoobdbgdldaaaDoorZPUpD
namespace Go.Proofs.YtcaoobdbgdldaaaDoor.Fwd
open Go.RowKit Go.Proofs.YtcaoobdbgdldaaaDoor.Lit Go.Proofs.YtcaoobdbgdldaaaDoor.Spr
set_option linter.unusedVariables false
set_option linter.unusedSimpArgs false

theorem steps_app (m : List (Bool × List Int)) : ∀ (l : List (Bool × List Int)) (F : Fw) (i : Nat), (stepsW F i l).1 ≠ 4 → stepsW F i (l ++ m) = stepsW F i l := by
  intro l
  induction l with
  | nil => intro F i h; exact absurd rfl h
  | cons s t ih =>
    intro F i h
    obtain ⟨d, c⟩ := s
    rw [List.cons_append]
    unfold stepsW at h ⊢
    split
    · rfl
    · rename_i h0
      rw [if_neg h0] at h
      exact ih _ _ h

end Go.Proofs.YtcaoobdbgdldaaaDoor.Fwd
