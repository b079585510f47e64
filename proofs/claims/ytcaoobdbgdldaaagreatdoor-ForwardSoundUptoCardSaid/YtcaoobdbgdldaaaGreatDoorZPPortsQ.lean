/- Part of the proof of ForwardSound: what the law uses of the text PortsQ. -/
import Derived.Test.YtcaoobdbgdldaaaGreatDoorZPPorts
namespace Go.Proofs.YtcaoobdbgdldaaaGreatDoor
open Go.RowKit Go.Maps Go.Proofs.YtcaoobdbgdldaaaGreatDoorW.PrintWords
set_option linter.unusedVariables false

def cnf_Formed.f (v : Int) (cs : List (List Int)) : Option Bool := if Spr.Fits cs [] then some (Spr.formedB v cs) else none
theorem cnf_Formed.calls (a0_0 : Int) (A0_1 : Option Addr) (c0_1 : Nat) (l0_1 : List (List Int)) (r : Bool) (w : World)
    (hr0_1 : Kd.C (Kd.slice 3 (Kd.int .i64)) w A0_1 l0_1.length l0_1) (hc0_1 : l0_1.length ≤ c0_1) (h : cnf_Formed.f a0_0 l0_1 = some r) :
    Calls Tryz.prog 31 #[.agg #[.int .i64 a0_0, .slice A0_1 l0_1.length c0_1]] w fun e w' => e = .returned (.bool r) ∧ Below w.heap.size w w' := by
  unfold cnf_Formed.f at h
  split at h
  · rename_i hS
    have hR := Option.some.inj h
    refine (Spr.cformed_any a0_0 A0_1 c0_1 l0_1 w (rc_of_C hr0_1) (by have := hS.1; omega) (fun x hx => by have := hS.2.1 x hx; omega)).mono fun e w' hp => ?_
    obtain ⟨he, hb⟩ := hp
    exact ⟨by rw [he, hR], hb⟩
  · cases h

end Go.Proofs.YtcaoobdbgdldaaaGreatDoor
