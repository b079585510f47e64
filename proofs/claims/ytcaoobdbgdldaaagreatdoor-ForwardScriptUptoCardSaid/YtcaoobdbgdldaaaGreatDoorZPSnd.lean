/- Part of the proof of ForwardScript: what the law uses of the text Snd. -/
import Derived.Test.YtcaoobdbgdldaaaGreatDoorZPJFollows
import Derived.Test.YtcaoobdbgdldaaaGreatDoorZPJUpA
namespace Go.Proofs.YtcaoobdbgdldaaaGreatDoor.Fwd
open Go.RowKit Go.Proofs.YtcaoobdbgdldaaaGreatDoor.Lit Go.Proofs.YtcaoobdbgdldaaaGreatDoor.Spr
set_option linter.unusedVariables false
set_option linter.unusedSimpArgs false

theorem m_without {c : List Int} {l x : Int} : x ∈ withoutL c l ↔ x ∈ c ∧ fm x = true ∧ x ≠ l := by
  unfold withoutL dropL
  rw [List.mem_filter, mem_tidy]
  simp only [Bool.not_eq_true', decide_eq_false_iff_not]
  exact ⟨fun h => ⟨h.1.1, h.1.2, h.2⟩, fun h => ⟨⟨h.1, h.2.1⟩, h.2.2⟩⟩
theorem m_has {d : List Int} {l : Int} : hasB d l = true ↔ fm l = true ∧ l ∈ d := by
  unfold hasB
  rw [Bool.and_eq_true, List.contains_iff_mem]

theorem fm_ne {x : Int} (h : fm x = true) : x ≠ 0 := (fm_true h).1
end Go.Proofs.YtcaoobdbgdldaaaGreatDoor.Fwd
