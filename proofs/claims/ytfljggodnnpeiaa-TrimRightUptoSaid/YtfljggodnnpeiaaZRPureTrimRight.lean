/- Part of the proof of TrimRight: what the law uses of the text PureTrimRight. -/
import Derived.Test.YtfljggodnnpeiaaZRTrY
namespace Go.Proofs.Ytfljggodnnpeiaa.Pure
open Go.RowKit Go.Proofs.Ytfljggodnnpeiaa.P Go.Proofs.Ytfljggodnnpeiaa.Rf Go.Proofs.YtfljggodnnpeiaaW.PrintWords
set_option linter.unusedVariables false

theorem TrimRight (v : Int) (cs : List (List Int)) (l : List S79) (h1 : cs.length ≤ 2097152) (h2 : ∀ c ∈ cs, c.length ≤ 2097152) (h3 : l.length ≤ 2097152) (h4 : ∀ s ∈ l, s.f1.length ≤ 2097152) : ∃ k, depotlaw12_TrimRight.f k v cs l = some true :=
  (TrimRight_ev v cs l ⟨h1, h2⟩ ⟨by rw [List.length_map]; exact h3, fun c hc => by obtain ⟨s, hs, rfl⟩ := List.mem_map.1 hc; exact h4 s hs⟩).rounds

end Go.Proofs.Ytfljggodnnpeiaa.Pure
