/- Part of the proof of AtmostForces: what the law uses of the text PortsM. -/
import Derived.Test.YtcaoobdbgdldaaaZPAtF
namespace Go.Proofs.Ytcaoobdbgdldaaa
open Go.RowKit Go.Maps Go.Proofs.Ytcaoobdbgdldaaa.Lit Go.Proofs.YtcaoobdbgdldaaaW.PrintWords
set_option linter.unusedVariables false

def atmost_AtMost.f (l : List Int) (k f : Int) : Option (List (List Int) × Int × Int) := if Spr.AFits l k f then some (Spr.atmostL l k f, f + Spr.helpersI l.length k, 0) else none
theorem atmost_AtMost.calls (A0 : Option Addr) (c0 : Nat) (l0 : List Int) (a1 a2 : Int) (r1 : List (List Int)) (r2 r3 : Int) (w : World)
    (hr0 : Kd.C (Kd.int .i64) w A0 l0.length l0) (hc0 : l0.length ≤ c0) (h : atmost_AtMost.f l0 a1 a2 = some (r1, r2, r3)) :
    Calls Try.prog 7 #[.slice A0 l0.length c0, .int .i64 a1, .int .i64 a2] w fun e w' => ∃ v0_ : Value, e = .returned (.tuple #[v0_, .int .i64 r2, .int .i64 r3]) ∧ Kd.S (Kd.slice 3 (Kd.int .i64)) 22 w' w.heap.size (fun _ => True) v0_ r1 ∧ Below w.heap.size w w' := by
  unfold atmost_AtMost.f at h
  split at h
  · rename_i hF
    cases h
    exact Spr.atmost_any A0 c0 l0 a1 a2 w (ic_of_C hr0) hF
  · cases h

end Go.Proofs.Ytcaoobdbgdldaaa
