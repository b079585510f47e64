/- Part of the proof of RupGrows: what the law uses of the text PortsT. -/
import Derived.Test.YthbccfgcemdgeabZgPortsS
import Derived.Test.YthbccfgcemdgeabZgBlocked
namespace Go.Proofs.Ythbccfgcemdgeab
open Go.RowKit Go.Maps Go.Proofs.YthbccfgcemdgeabW.PrintWords
set_option linter.unusedVariables false

def rup_Blocked.f (v : Int) (cs : List (List Int)) (c : List Int) : Option (Bool × Int) := if Spr.Fits cs c then some (Spr.blockedR v cs c) else none
theorem rup_Blocked.calls (a0_0 : Int) (A0_1 : Option Addr) (c0_1 : Nat) (l0_1 : List (List Int)) (A1 : Option Addr) (c1 : Nat) (l1 : List Int) (r1 : Bool) (r2 : Int) (w : World)
    (hr0_1 : Kd.C (Kd.slice 3 (Kd.int .i64)) w A0_1 l0_1.length l0_1) (hc0_1 : l0_1.length ≤ c0_1) (hr1 : Kd.C (Kd.int .i64) w A1 l1.length l1) (hc1 : l1.length ≤ c1) (h : rup_Blocked.f a0_0 l0_1 l1 = some (r1, r2)) :
    Calls Try.prog 9 #[.agg #[.int .i64 a0_0, .slice A0_1 l0_1.length c0_1], .slice A1 l1.length c1] w fun e w' => e = .returned (.tuple #[.bool r1, .int .i64 r2]) ∧ Below w.heap.size w w' := by
  unfold rup_Blocked.f at h
  split at h
  · rename_i hS
    have hR := Option.some.inj h
    refine (Spr.blocked_any a0_0 A0_1 c0_1 l0_1 A1 c1 l1 w (rc_of_C hr0_1) (ic_of_C hr1) hS).mono fun e w' hp => ?_
    rw [hR] at hp
    exact hp
  · cases h
def lits_Join.f (a b : List Int) : Option (List Int) := if (a.length + b.length) * 8 ≤ 281474976710656 then some (Spr.joinL a b) else none
theorem lits_Join.calls (A0 : Option Addr) (c0 : Nat) (l0 : List Int) (A1 : Option Addr) (c1 : Nat) (l1 : List Int) (r : List Int) (w : World)
    (hr0 : Kd.C (Kd.int .i64) w A0 l0.length l0) (hc0 : l0.length ≤ c0) (hr1 : Kd.C (Kd.int .i64) w A1 l1.length l1) (hc1 : l1.length ≤ c1) (h : lits_Join.f l0 l1 = some r) :
    Calls Try.prog 13 #[.slice A0 l0.length c0, .slice A1 l1.length c1] w fun e w' => ∃ v0_ : Value, e = .returned v0_ ∧ Kd.R (Kd.int .i64) 3 w' w.heap.size (fun _ => True) v0_ r ∧ Below w.heap.size w w' := by
  unfold lits_Join.f at h
  split at h
  · rename_i hS
    have hR := Option.some.inj h
    refine (Spr.join_any A0 A1 c0 c1 l0 l1 w (ic_of_C hr0) (ic_of_C hr1) hS).mono fun e w' hp => ?_
    rw [hR] at hp
    obtain ⟨u, he, ho, hb⟩ := hp
    exact ⟨u, he, r_of_own ho, hb⟩
  · cases h
end Go.Proofs.Ythbccfgcemdgeab
