/- Part of the proof of UnderHolds: what the law uses of the text FwL. -/
import Derived.Test.YtjhmkhbmjopmkaaGreatDoorZPFwP
namespace Go.Proofs.YtjhmkhbmjopmkaaGreatDoor.Fwd
open Go.RowKit Go.Shelf Go.Maps Go.Proofs.YtjhmkhbmjopmkaaGreatDoor.Lit Go.Proofs.YtjhmkhbmjopmkaaGreatDoor.Spr
set_option linter.unusedVariables false
set_option linter.unusedSimpArgs false

def AM (F : Fw) : Prop := ∀ t ∈ F.ms, t ∈ F.all
theorem AM.put {F : Fw} (h : AM F) (c : List Int) : AM (putW F c) := by
  intro t ht
  unfold putW at ht ⊢
  dsimp only at ht ⊢
  rcases List.mem_append.1 ht with e | e
  · have := h t e
    split
    · exact List.mem_append_left _ this
    · exact this
  · rw [List.mem_singleton] at e
    subst e
    split
    · exact List.mem_append_right _ (List.mem_singleton_self _)
    · rename_i hc
      exact h _ (List.count_pos_iff.1 (by omega))
theorem AM.new (cs : List (List Int)) : AM (newW cs) := by
  unfold newW
  have : ∀ (cs : List (List Int)) (F : Fw), AM F → AM (cs.foldl putW F) := by
    intro cs
    induction cs with
    | nil => exact fun F h => h
    | cons c t ih => exact fun F h => ih _ (h.put c)
  exact this cs _ (fun t ht => by cases ht)
theorem AM.add {F : Fw} (h : AM F) (c : List Int) : AM (addW F c).2.2 := by
  unfold addW
  split
  · split
    · exact h
    · exact (h.put c)
  · exact h
theorem AM.drop {F : Fw} (h : AM F) (c : List Int) : AM (dropW F c).2.2 := by
  unfold dropW
  split
  · split
    · exact h
    · split
      · exact h
      · intro t ht
        unfold goneW at ht ⊢
        dsimp only at ht ⊢
        have h1 := h t (List.mem_of_mem_erase ht)
        split
        · rename_i hc
          refine List.mem_filter.2 ⟨h1, ?_⟩
          have : t ≠ tidyL c := by
            rintro rfl
            have := List.count_pos_iff.2 ht
            rw [List.count_erase_self] at this
            omega
          simpa using fun e => this e.symm
        · exact h1
  · exact h
end Go.Proofs.YtjhmkhbmjopmkaaGreatDoor.Fwd
