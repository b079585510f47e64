/- Part of the proof of ForwardScript: what the law uses of the text FolP. -/
import Derived.Test.YtcaoobdbgdldaaaGreatDoorZPJUpA
import Derived.Test.YtcaoobdbgdldaaaGreatDoorZPJFollows
namespace Go.Proofs.YtcaoobdbgdldaaaGreatDoor.Rf
open Go.RowKit Go.Proofs.YtcaoobdbgdldaaaGreatDoor.Lit Go.Proofs.YtcaoobdbgdldaaaGreatDoor.Spr
set_option linter.unusedVariables false
set_option linter.unusedSimpArgs false

theorem formed_all {v : Int} {cs : List (List Int)} (h : formedB v cs = true) : (0 ≤ v ∧ v ≤ 1048576) ∧ ∀ c ∈ cs, ∀ x ∈ c, fm x = true := by
  unfold formedB at h
  simp only [Bool.and_eq_true, decide_eq_true_eq] at h
  refine ⟨h.1, fun c hc x hx => ?_⟩
  have := List.all_eq_true.1 h.2 c hc
  unfold withinB at this
  rw [Bool.and_eq_true] at this
  exact List.all_eq_true.1 this.1 x hx
theorem fm_negL {c : List Int} (h : ∀ x ∈ c, fm x = true) : ∀ x ∈ negL c, fm x = true := fun x hx => by
  obtain ⟨y, hy, rfl⟩ := List.mem_map.1 hx
  exact fm_neg (h y hy)
theorem follows_iff {v : Int} {cs : List (List Int)} {c : List Int} (h1 : formedB v cs = true) (hc : ∀ x ∈ c, fm x = true) : followsR v cs c = true ↔ Clash cs (negL c) := by
  obtain ⟨_, hf⟩ := formed_all h1
  have hn := fm_negL hc
  obtain ⟨p1, p2⟩ := closed_up cs (negL c) hn hf
  unfold followsR closeR
  have ha : askedI v cs (negL c) = 0 := by unfold askedI; rw [h1, List.all_eq_true.2 hn]; rfl
  rw [if_pos ha]
  by_cases hy : (closedSt cs (negL c)).2 = true
  · rw [if_pos hy]
    exact ⟨fun h => absurd (show false = true from h) (by decide), fun h => absurd h (p1 hy).2.2.2.2⟩
  · rw [if_neg hy]
    exact ⟨fun _ => p2 (Bool.eq_false_iff.2 hy), fun _ => rfl⟩

end Go.Proofs.YtcaoobdbgdldaaaGreatDoor.Rf
