/- Part of the proof of RupSound: what the law uses of the text PortsS. -/
import Derived.Test.YthgkchnmajccoaaZPPortsR
import Derived.Test.YthgkchnmajccoaaZPSafe
namespace Go.Proofs.Ythgkchnmajccoaa
open Go.RowKit Go.Maps Go.Proofs.YthgkchnmajccoaaW.PrintWords
set_option linter.unusedVariables false

def rup_safe.f (v : Int) (cs : List (List Int)) (c : List Int) : Option Bool := if Spr.Fits cs c then (if c.all Lit.fm = true then some (Spr.safeR v cs c) else none) else none
theorem rup_safe.calls (a0_0 : Int) (A0_1 : Option Addr) (c0_1 : Nat) (l0_1 : List (List Int)) (A1 : Option Addr) (c1 : Nat) (l1 : List Int) (r : Bool) (w : World)
    (hr0_1 : Kd.C (Kd.slice 3 (Kd.int .i64)) w A0_1 l0_1.length l0_1) (hc0_1 : l0_1.length ≤ c0_1) (hr1 : Kd.C (Kd.int .i64) w A1 l1.length l1) (hc1 : l1.length ≤ c1) (h : rup_safe.f a0_0 l0_1 l1 = some r) :
    Calls Try.prog 16 #[.agg #[.int .i64 a0_0, .slice A0_1 l0_1.length c0_1], .slice A1 l1.length c1] w fun e w' => e = .returned (.bool r) ∧ Below w.heap.size w w' := by
  unfold rup_safe.f at h
  split at h
  · rename_i hS
    split at h
    · rename_i hf
      have hR := Option.some.inj h
      refine (Spr.safe_any a0_0 A0_1 c0_1 l0_1 A1 c1 l1 w (rc_of_C hr0_1) (ic_of_C hr1) hS (List.all_eq_true.1 hf)).mono fun e w' hp => ?_
      rw [hR] at hp
      exact hp
    · cases h
  · cases h

end Go.Proofs.Ythgkchnmajccoaa
