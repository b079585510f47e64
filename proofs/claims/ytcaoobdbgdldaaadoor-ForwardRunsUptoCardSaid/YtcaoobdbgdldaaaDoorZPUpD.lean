/- Part of the proof of ForwardRuns: what the law uses of the text UpD. -/
import Derived.Test.YtcaoobdbgdldaaaDoorZPUD
namespace Go.Proofs.YtcaoobdbgdldaaaDoor.Spr
open Go.RowKit Go.Proofs.YtcaoobdbgdldaaaDoor.Lit

theorem tidy_len (c : List Int) : (tidyL c).length ≤ 2097152 := by
  have hr := tidy_rising c
  have hf : ∀ l ∈ tidyL c, fm l = true := fun l hl => ((mem_tidy _ l).1 hl).2
  have hn : ((tidyL c).map ix).Nodup := List.Pairwise.map _ (fun a b h => by omega) hr
  have := nodup_le 2097152 _ hn (fun v hv => by
    obtain ⟨l, hl, rfl⟩ := List.mem_map.1 hv
    have h1 := fm_true (hf l hl)
    have h0 := hf l hl
    unfold ix
    rw [if_pos h0]
    split <;> omega)
  simpa using this

end Go.Proofs.YtcaoobdbgdldaaaDoor.Spr
