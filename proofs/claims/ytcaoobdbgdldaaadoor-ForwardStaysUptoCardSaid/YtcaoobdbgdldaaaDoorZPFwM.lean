/- Part of the proof of ForwardStays: what the law uses of the text FwM. -/
import Derived.Test.YtcaoobdbgdldaaaDoorZPFwK
import Derived.Test.YtcaoobdbgdldaaaDoorZPUpD
namespace Go.Proofs.YtcaoobdbgdldaaaDoor.Fwd
open Go.RowKit Go.Proofs.YtcaoobdbgdldaaaDoor.Lit Go.Proofs.YtcaoobdbgdldaaaDoor.Spr
set_option linter.unusedVariables false
set_option linter.unusedSimpArgs false

theorem m_negL {c : List Int} {x : Int} : x ∈ negL c ↔ -x ∈ c := by
  unfold negL
  rw [List.mem_map]
  constructor
  · rintro ⟨y, hy, rfl⟩; rwa [Int.neg_neg]
  · intro h; exact ⟨-x, h, Int.neg_neg x⟩
theorem follows_clash {v : Int} {cs : List (List Int)} {c : List Int} (h : followsR v cs c = true) (hcs : ∀ d ∈ cs, ∀ x ∈ d, fm x = true) (hc : ∀ x ∈ c, fm x = true) : Clash cs (negL c) := by
  unfold followsR closeR at h
  split at h
  · split at h
    · simp at h
    · rename_i hy
      refine (closed_up cs (negL c) (fun x hx => ?_) hcs).2 (Bool.eq_false_iff.2 hy)
      have := fm_neg (hc _ (m_negL.1 hx))
      rwa [Int.neg_neg] at this
  · simp at h
theorem put_all (F : Fw) (c : List Int) : ∀ d ∈ (putW F c).all, d ∈ F.all ∨ d = tidyL c := by
  intro d hd
  unfold putW at hd
  dsimp only at hd
  split at hd
  · rcases List.mem_append.1 hd with e | e
    · exact .inl e
    · exact .inr (List.mem_singleton.1 e)
  · exact .inl hd
end Go.Proofs.YtcaoobdbgdldaaaDoor.Fwd
