/- Part of the proof of ForwardLasts: what the law uses of the text Lasts. -/
import Derived.Test.YtcaoobdbgdldaaaGreatDoorZPClE
import Derived.Test.YtcaoobdbgdldaaaGreatDoorZPClF
namespace Go.Proofs.YtcaoobdbgdldaaaGreatDoor.P
open Go.RowKit Go.Maps Go.Proofs.YtcaoobdbgdldaaaGreatDoor.Lit Go.Proofs.YtcaoobdbgdldaaaGreatDoor.Spr Go.Proofs.YtcaoobdbgdldaaaGreatDoor.Fwd Go.Proofs.YtcaoobdbgdldaaaGreatDoorW.PrintWords
set_option linter.unusedVariables false

def LastFits (cs : List (List Int)) (l : List (Int × List Int)) : Prop := cs.length ≤ 1048576 ∧ (∀ c ∈ cs, c.length ≤ 1048576) ∧ l.length ≤ 1048576 ∧ ∀ s ∈ l, s.2.length ≤ 1048576
instance (cs : List (List Int)) (l : List (Int × List Int)) : Decidable (LastFits cs l) := by unfold LastFits; infer_instance
def depotlaw11_ForwardLasts.f (k : Nat) (v : Int) (cs : List (List Int)) (l : List (Int × List Int)) : Option Bool := if LastFits cs l then some true else none
theorem depotlaw11_ForwardLasts.calls (k : Nat) (v : Int) (A : Option Addr) (c0 : Nat) (cs : List (List Int)) (Ao : Option Addr) (co : Nat) (l : List (Int × List Int)) (r : Bool) (w : World) (hT : Fwd.Tab w)
    (hr0 : Kd.C (Kd.slice 3 (Kd.int .i64)) w A cs.length cs) (hc0 : cs.length ≤ c0) (hr1 : Cl.OC w Ao l) (h : depotlaw11_ForwardLasts.f k v cs l = some r) :
    Calls Tryz.prog 8 #[.agg #[.int .i64 v, .slice A cs.length c0], .slice Ao l.length co] w fun e w' => e = .returned (.bool r) ∧ Below w.heap.size w w' := by
  unfold depotlaw11_ForwardLasts.f at h
  split at h
  · rename_i hS
    obtain ⟨h1, h2, h3, h4⟩ := hS
    obtain rfl := Option.some.inj h
    cases hp : formedB v cs with
    | false => exact Cl.lasts_no v A c0 cs Ao co l.length w (rc_of_C hr0) h1 h2 hT hp
    | true => exact Cl.lasts_yes v A c0 cs Ao co l w hr0 hc0 hr1 h1 h2 h3 h4 hT hp
  · cases h

end Go.Proofs.YtcaoobdbgdldaaaGreatDoor.P
namespace Go.Proofs.YtcaoobdbgdldaaaGreatDoor.Pure
open Go.Proofs.YtcaoobdbgdldaaaGreatDoor.P
theorem ForwardLasts (v : Int) (cs : List (List Int)) (l : List (Int × List Int)) (h1 : cs.length ≤ 1048576) (h2 : ∀ c ∈ cs, c.length ≤ 1048576) (h3 : l.length ≤ 1048576) (h4 : ∀ s ∈ l, s.2.length ≤ 1048576) : ∃ k, depotlaw11_ForwardLasts.f k v cs l = some true := ⟨0, if_pos ⟨h1, h2, h3, h4⟩⟩
end Go.Proofs.YtcaoobdbgdldaaaGreatDoor.Pure
