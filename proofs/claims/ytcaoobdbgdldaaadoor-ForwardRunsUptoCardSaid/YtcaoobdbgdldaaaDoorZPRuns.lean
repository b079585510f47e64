/- Part of the proof of ForwardRuns: what the law uses of the text Runs. -/
import Derived.Test.YtcaoobdbgdldaaaDoorZPFwR
namespace Go.Proofs.YtcaoobdbgdldaaaDoor.P
open Go.RowKit Go.Maps Go.Proofs.YtcaoobdbgdldaaaDoor.Lit Go.Proofs.YtcaoobdbgdldaaaDoor.Spr Go.Proofs.YtcaoobdbgdldaaaDoor.Fwd Go.Proofs.YtcaoobdbgdldaaaDoorW.PrintWords
set_option linter.unusedVariables false

def RunFits (cs : List (List Int)) (l m : List S37) : Prop := cs.length ≤ 1048576 ∧ (∀ c ∈ cs, c.length ≤ 1048576) ∧ l.length ≤ 1048576 ∧ (∀ s ∈ l, s.f1.length ≤ 1048576) ∧ m.length ≤ 1048576 ∧ ∀ s ∈ m, s.f1.length ≤ 1048576
instance (cs : List (List Int)) (l m : List S37) : Decidable (RunFits cs l m) := by unfold RunFits; infer_instance
def depotlaw11_ForwardRuns.f (k : Nat) (v : Int) (cs : List (List Int)) (l m : List S37) : Option Bool := if RunFits cs l m then some true else none
theorem depotlaw11_ForwardRuns.calls (k : Nat) (v : Int) (A : Option Addr) (c0 : Nat) (cs : List (List Int)) (As : Option Addr) (cq : Nat) (l : List S37) (Am : Option Addr) (cm : Nat) (m : List S37) (r : Bool) (w : World) (hT : Fwd.Tab w)
    (hr0 : Kd.C (Kd.slice 3 (Kd.int .i64)) w A cs.length cs) (hc0 : cs.length ≤ c0) (hr1 : Kd.C k37 w As l.length l) (hc1 : l.length ≤ cq) (hr2 : Kd.C k37 w Am m.length m) (hc2 : m.length ≤ cm) (h : depotlaw11_ForwardRuns.f k v cs l m = some r) :
    Calls Tryd.prog 3 #[.agg #[.int .i64 v, .slice A cs.length c0], .slice As l.length cq, .slice Am m.length cm] w fun e w' => e = .returned (.bool r) ∧ Below w.heap.size w w' := by
  unfold depotlaw11_ForwardRuns.f at h
  split at h
  · rename_i hS
    obtain ⟨h1, h2, h3, h4, h5, h6⟩ := hS
    obtain rfl := Option.some.inj h
    cases hp : formedB v cs with
    | false => exact runs_no v A c0 cs As cq l Am cm m w (rc_of_C hr0) hr1 hc1 hr2 hc2 ⟨h1, h2, h3, h4, h5, h6⟩ hT hp
    | true => exact runs_yes v A c0 cs As cq l Am cm m w (rc_of_C hr0) hr1 hc1 hr2 hc2 ⟨h1, h2, h3, h4, h5, h6⟩ hT hp
  · cases h

end Go.Proofs.YtcaoobdbgdldaaaDoor.P
namespace Go.Proofs.YtcaoobdbgdldaaaDoor.Pure
open Go.Proofs.YtcaoobdbgdldaaaDoor.P
theorem ForwardRuns (v : Int) (cs : List (List Int)) (l m : List S37) (h1 : cs.length ≤ 1048576) (h2 : ∀ c ∈ cs, c.length ≤ 1048576) (h3 : l.length ≤ 1048576) (h4 : ∀ s ∈ l, s.f1.length ≤ 1048576) (h5 : m.length ≤ 1048576) (h6 : ∀ s ∈ m, s.f1.length ≤ 1048576) : ∃ k, depotlaw11_ForwardRuns.f k v cs l m = some true := ⟨0, if_pos ⟨h1, h2, h3, h4, h5, h6⟩⟩
end Go.Proofs.YtcaoobdbgdldaaaDoor.Pure
