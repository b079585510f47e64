/- Part of the proof of RupSound: what the law uses of the text PortsR. -/
import Derived.Test.YthgkchnmajccoaaZPPorts
import Derived.Test.YthgkchnmajccoaaZPFollows
namespace Go.Proofs.Ythgkchnmajccoaa
open Go.RowKit Go.Maps Go.Proofs.YthgkchnmajccoaaW.PrintWords
set_option linter.unusedVariables false

def lits_Sound.f (xs : List Int) : Option Bool := if Spr.Fits [] xs then some (xs.all Lit.fm) else none
theorem lits_Sound.calls (A0 : Option Addr) (c0 : Nat) (l0 : List Int) (r : Bool) (w : World) (hr0 : Kd.C (Kd.int .i64) w A0 l0.length l0) (hc0 : l0.length ≤ c0) (h : lits_Sound.f l0 = some r) :
    Calls Try.prog 7 #[.slice A0 l0.length c0] w fun e w' => e = .returned (.bool r) ∧ Below w.heap.size w w' := by
  unfold lits_Sound.f at h
  split at h
  · rename_i hS
    have hR := Option.some.inj h
    refine (Spr.sound_any A0 c0 l0 w (ic_of_C hr0) (by have := hS.2.2; omega)).mono fun e w' hp => ?_
    obtain ⟨he, rfl⟩ := hp
    exact ⟨by rw [he, hR], Below.refl _ _⟩
  · cases h
def cnf_Formed.f (v : Int) (cs : List (List Int)) : Option Bool := if Spr.Fits cs [] then some (Spr.formedB v cs) else none
theorem cnf_Formed.calls (a0_0 : Int) (A0_1 : Option Addr) (c0_1 : Nat) (l0_1 : List (List Int)) (r : Bool) (w : World)
    (hr0_1 : Kd.C (Kd.slice 3 (Kd.int .i64)) w A0_1 l0_1.length l0_1) (hc0_1 : l0_1.length ≤ c0_1) (h : cnf_Formed.f a0_0 l0_1 = some r) :
    Calls Try.prog 6 #[.agg #[.int .i64 a0_0, .slice A0_1 l0_1.length c0_1]] w fun e w' => e = .returned (.bool r) ∧ Below w.heap.size w w' := by
  unfold cnf_Formed.f at h
  split at h
  · rename_i hS
    have hR := Option.some.inj h
    refine (Spr.cformed_any a0_0 A0_1 c0_1 l0_1 w (rc_of_C hr0_1) (by have := hS.1; omega) (fun x hx => by have := hS.2.1 x hx; omega)).mono fun e w' hp => ?_
    obtain ⟨he, hb⟩ := hp
    exact ⟨by rw [he, hR], hb⟩
  · cases h
def rup_follows.f (v : Int) (cs : List (List Int)) (c : List Int) : Option Bool := if Spr.Fits cs c then (if c.all Lit.fm = true then some (Spr.followsR v cs c) else none) else none
theorem rup_follows.calls (a0_0 : Int) (A0_1 : Option Addr) (c0_1 : Nat) (l0_1 : List (List Int)) (A1 : Option Addr) (c1 : Nat) (l1 : List Int) (r : Bool) (w : World)
    (hr0_1 : Kd.C (Kd.slice 3 (Kd.int .i64)) w A0_1 l0_1.length l0_1) (hc0_1 : l0_1.length ≤ c0_1) (hr1 : Kd.C (Kd.int .i64) w A1 l1.length l1) (hc1 : l1.length ≤ c1) (h : rup_follows.f a0_0 l0_1 l1 = some r) :
    Calls Try.prog 15 #[.agg #[.int .i64 a0_0, .slice A0_1 l0_1.length c0_1], .slice A1 l1.length c1] w fun e w' => e = .returned (.bool r) ∧ Below w.heap.size w w' := by
  unfold rup_follows.f at h
  split at h
  · rename_i hS
    split at h
    · rename_i hf
      have hR := Option.some.inj h
      refine (Spr.follows_any a0_0 A0_1 c0_1 l0_1 A1 c1 l1 w (rc_of_C hr0_1) (ic_of_C hr1) hS (List.all_eq_true.1 hf)).mono fun e w' hp => ?_
      rw [hR] at hp
      exact hp
    · cases h
  · cases h

end Go.Proofs.Ythgkchnmajccoaa
