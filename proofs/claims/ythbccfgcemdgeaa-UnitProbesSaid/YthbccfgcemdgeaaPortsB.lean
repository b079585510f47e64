/- unit.Probe, told in the very shape in which the print tells a function. -/
import Derived.Test.YthbccfgcemdgeaaPorts
import Derived.Test.YthbccfgcemdgeaaProbe
namespace Go.Proofs.Ythbccfgcemdgeaa
open Go.RowKit Go.Maps Go.Proofs.YthbccfgcemdgeaaW.PrintWords
set_option linter.unusedVariables false

def unit_Probe.f (v : Int) (cs : List (List Int)) : Option (List Int × Int) := if Spr.Fits cs [] then some (Spr.probeR v cs) else none
theorem unit_Probe.calls (a0_0 : Int) (A0_1 : Option Addr) (c0_1 : Nat) (l0_1 : List (List Int)) (r1 : List Int) (r2 : Int) (w : World)
    (hr0_1 : Kd.C (Kd.slice 3 (Kd.int .i64)) w A0_1 l0_1.length l0_1) (hc0_1 : l0_1.length ≤ c0_1) (h : unit_Probe.f a0_0 l0_1 = some (r1, r2)) :
    Calls Try.prog 31 #[.agg #[.int .i64 a0_0, .slice A0_1 l0_1.length c0_1]] w fun e w' => ∃ v0_ : Value, e = .returned (.tuple #[v0_, .int .i64 r2]) ∧ Kd.R (Kd.int .i64) 3 w' w.heap.size (fun _ => True) v0_ r1 ∧ Below w.heap.size w w' := by
  unfold unit_Probe.f at h
  split at h
  · rename_i hS
    have hR := Option.some.inj h
    refine (Spr.probe_any a0_0 A0_1 c0_1 l0_1 w (rc_of_C hr0_1) hS).mono fun e w' hp => ?_
    rw [hR] at hp
    obtain ⟨u, he, ho, hb⟩ := hp
    exact ⟨u, he, r_of_own ho, hb⟩
  · cases h

end Go.Proofs.Ythbccfgcemdgeaa
