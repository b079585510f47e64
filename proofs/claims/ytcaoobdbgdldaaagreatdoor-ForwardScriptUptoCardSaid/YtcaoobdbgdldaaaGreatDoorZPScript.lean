/- Part of the proof of ForwardScript: what the law uses of the text Script. -/
import Derived.Test.YtcaoobdbgdldaaaGreatDoorZPScL
namespace Go.Proofs.YtcaoobdbgdldaaaGreatDoor.P
open Go.RowKit Go.Maps Go.Proofs.YtcaoobdbgdldaaaGreatDoor.Lit Go.Proofs.YtcaoobdbgdldaaaGreatDoor.Spr Go.Proofs.YtcaoobdbgdldaaaGreatDoor.Fwd Go.Proofs.YtcaoobdbgdldaaaGreatDoorW.PrintWords
set_option linter.unusedVariables false

def ScriptFits (cs0 cs1 : List (List Int)) (l : List (Int × List Int)) : Prop := (cs0.length ≤ 1048576 ∧ ∀ c ∈ cs0, c.length ≤ 1048576) ∧ (cs1.length ≤ 1048576 ∧ ∀ c ∈ cs1, c.length ≤ 1048576) ∧ l.length ≤ 1048576 ∧ ∀ s ∈ l, s.2.length ≤ 1048576
instance (cs0 cs1 : List (List Int)) (l : List (Int × List Int)) : Decidable (ScriptFits cs0 cs1 l) := by unfold ScriptFits; infer_instance
def depotlaw11_ForwardScript.f (k : Nat) (v0 : Int) (cs0 : List (List Int)) (v1 : Int) (cs1 : List (List Int)) (l : List (Int × List Int)) : Option Bool := if ScriptFits cs0 cs1 l then some true else none
theorem depotlaw11_ForwardScript.calls (k : Nat) (v0 : Int) (A0 : Option Addr) (c0 : Nat) (cs0 : List (List Int)) (v1 : Int) (A1 : Option Addr) (c1 : Nat) (cs1 : List (List Int)) (Ao : Option Addr) (co : Nat) (l : List (Int × List Int)) (r : Bool) (w : World) (hT : Fwd.Tab w)
    (hr0 : Kd.C (Kd.slice 3 (Kd.int .i64)) w A0 cs0.length cs0) (hc0 : cs0.length ≤ c0) (hr1 : Kd.C (Kd.slice 3 (Kd.int .i64)) w A1 cs1.length cs1) (hc1 : cs1.length ≤ c1) (ho : Sc.OC2 w Ao l) (h : depotlaw11_ForwardScript.f k v0 cs0 v1 cs1 l = some r) :
    Calls Tryz.prog 5 #[.agg #[.int .i64 v0, .slice A0 cs0.length c0, .int .i64 v1, .slice A1 cs1.length c1, .slice Ao l.length co]] w fun e w' => e = .returned (.bool r) ∧ Below w.heap.size w w' := by
  unfold depotlaw11_ForwardScript.f at h
  split at h
  · rename_i hS
    obtain ⟨⟨h1, h2⟩, ⟨h3, h4⟩, h5, h6⟩ := hS
    obtain rfl := Option.some.inj h
    exact Sc.script_any v0 v1 A0 A1 c0 c1 cs0 cs1 Ao co l w hr0 hc0 hr1 hc1 ho h1 h2 h3 h4 h5 h6 hT
  · cases h

end Go.Proofs.YtcaoobdbgdldaaaGreatDoor.P
namespace Go.Proofs.YtcaoobdbgdldaaaGreatDoor.Pure
open Go.Proofs.YtcaoobdbgdldaaaGreatDoor.P
theorem ForwardScript (v0 : Int) (cs0 : List (List Int)) (v1 : Int) (cs1 : List (List Int)) (l : List (Int × List Int)) (h1 : cs0.length ≤ 1048576 ∧ ∀ c ∈ cs0, c.length ≤ 1048576) (h2 : cs1.length ≤ 1048576 ∧ ∀ c ∈ cs1, c.length ≤ 1048576) (h3 : l.length ≤ 1048576) (h4 : ∀ s ∈ l, s.2.length ≤ 1048576) : ∃ k, depotlaw11_ForwardScript.f k v0 cs0 v1 cs1 l = some true := ⟨0, if_pos ⟨h1, h2, h3, h4⟩⟩
end Go.Proofs.YtcaoobdbgdldaaaGreatDoor.Pure
