/- Part of the proof of RupOrder: what the law uses of the text PortsT. -/
import Derived.Test.YthbccfgcemdgeabZoPortsS
import Derived.Test.YthbccfgcemdgeabZoBlocked
namespace Go.Proofs.Ythbccfgcemdgeab
open Go.RowKit Go.Maps Go.Proofs.YthbccfgcemdgeabW.PrintWords
set_option linter.unusedVariables false

def rup_Blocked.f (v : Int) (cs : List (List Int)) (c : List Int) : Option (Bool × Int) := if Spr.Fits cs c then some (Spr.blockedR v cs c) else none
theorem rup_Blocked.calls (a0_0 : Int) (A0_1 : Option Addr) (c0_1 : Nat) (l0_1 : List (List Int)) (A1 : Option Addr) (c1 : Nat) (l1 : List Int) (r1 : Bool) (r2 : Int) (w : World)
    (hr0_1 : Kd.C (Kd.slice 3 (Kd.int .i64)) w A0_1 l0_1.length l0_1) (hc0_1 : l0_1.length ≤ c0_1) (hr1 : Kd.C (Kd.int .i64) w A1 l1.length l1) (hc1 : l1.length ≤ c1) (h : rup_Blocked.f a0_0 l0_1 l1 = some (r1, r2)) :
    Calls Try.prog 9 #[.agg #[.int .i64 a0_0, .slice A0_1 l0_1.length c0_1], .slice A1 l1.length c1] w fun e w' => e = .returned (.tuple #[.bool r1, .int .i64 r2]) ∧ Below w.heap.size w w' := by
  unfold rup_Blocked.f at h
  split at h
  · rename_i hS
    have hR := Option.some.inj h
    refine (Spr.blocked_any a0_0 A0_1 c0_1 l0_1 A1 c1 l1 w (rc_of_C hr0_1) (ic_of_C hr1) hS).mono fun e w' hp => ?_
    rw [hR] at hp
    exact hp
  · cases h
def lits_Has.f (a : List Int) (l : Int) : Option Bool := if Spr.Fits [] a then some (Spr.hasB a l) else none
theorem lits_Has.calls (A0 : Option Addr) (c0 : Nat) (l0 : List Int) (a1 : Int) (r : Bool) (w : World) (hr0 : Kd.C (Kd.int .i64) w A0 l0.length l0) (hc0 : l0.length ≤ c0) (h : lits_Has.f l0 a1 = some r) :
    Calls Try.prog 44 #[.slice A0 l0.length c0, .int .i64 a1] w fun e w' => e = .returned (.bool r) ∧ Below w.heap.size w w' := by
  unfold lits_Has.f at h
  split at h
  · rename_i hS
    have hR := Option.some.inj h
    refine (Spr.has_any A0 c0 l0 a1 w (ic_of_C hr0) (by have := hS.2.2; omega)).mono fun e w' hp => ?_
    obtain ⟨he, rfl⟩ := hp
    exact ⟨by rw [he, hR], Below.refl _ _⟩
  · cases h

end Go.Proofs.Ythbccfgcemdgeab
