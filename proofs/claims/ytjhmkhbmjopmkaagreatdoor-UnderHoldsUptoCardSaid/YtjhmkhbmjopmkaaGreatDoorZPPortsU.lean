/- Part of the proof of UnderHolds: what the law uses of the text PortsU. -/
import Derived.Test.YtjhmkhbmjopmkaaGreatDoorZPUhB
import Derived.Test.YtjhmkhbmjopmkaaGreatDoorZPUhC
namespace Go.Proofs.YtjhmkhbmjopmkaaGreatDoor
open Go.RowKit Go.Maps Go.Proofs.YtjhmkhbmjopmkaaGreatDoor.Lit Go.Proofs.YtjhmkhbmjopmkaaGreatDoor.P Go.Proofs.YtjhmkhbmjopmkaaGreatDoorW.PrintWords
set_option linter.unusedVariables false

def UFits (cs : List (List Int)) (fl : List Int) (l : List S32) : Prop := cs.length ≤ 2097152 ∧ (∀ c ∈ cs, c.length ≤ 2097152) ∧ fl.length ≤ 2097152 ∧ l.length ≤ 2097152 ∧ ∀ s ∈ l, s.f1.length ≤ 2097152
instance (cs : List (List Int)) (fl : List Int) (l : List S32) : Decidable (UFits cs fl l) := by unfold UFits; infer_instance
def under_Holds.f (v : Int) (cs : List (List Int)) (fl : List Int) (l : List S32) : Option Bool := if UFits cs fl l then some (Uh.holdsW v cs fl (l.map fun s => (s.f0, s.f1))) else none
def depotref18_Holds.f (v : Int) (cs : List (List Int)) (fl : List Int) (l : List S32) : Option Bool := if UFits cs fl l then some (Uh.holdsW v cs fl (l.map fun s => (s.f0, s.f1))) else none
theorem under_Holds.calls (a0_0 : Int) (A0_1 : Option Addr) (c0_1 : Nat) (l0_1 : List (List Int)) (A1 : Option Addr) (c1 : Nat) (l1 : List Int) (A2 : Option Addr) (c2 : Nat) (l2 : List S32) (r : Bool) (w : World) (hT : Fwd.Tab w)
    (hr0_1 : Kd.C (Kd.slice 3 (Kd.int .i64)) w A0_1 l0_1.length l0_1) (hc0_1 : l0_1.length ≤ c0_1) (hr1 : Kd.C (Kd.int .i64) w A1 l1.length l1) (hc1 : l1.length ≤ c1) (hr2 : Kd.C k32 w A2 l2.length l2) (hc2 : l2.length ≤ c2) (h : under_Holds.f a0_0 l0_1 l1 l2 = some r) :
    Calls Tryz.prog 4 #[.agg #[.int .i64 a0_0, .slice A0_1 l0_1.length c0_1], .slice A1 l1.length c1, .slice A2 l2.length c2] w fun e w' => e = .returned (.bool r) ∧ Below w.heap.size w w' := by
  unfold under_Holds.f at h
  split at h
  · rename_i hS
    have hR := Option.some.inj h
    have hq := Uh.holds_any a0_0 A0_1 c0_1 l0_1 A1 c1 l1 A2 c2 (l2.map fun s => (s.f0, s.f1)) w hr0_1 hc0_1 hr1 hc1 (Uh.sk_of_C hr2) hS.1 hS.2.1 hS.2.2.1 (by rw [List.length_map]; exact hS.2.2.2.1) (fun s hs => by obtain ⟨s', h1, rfl⟩ := List.mem_map.1 hs; exact hS.2.2.2.2 s' h1) hT
    rw [hR, List.length_map] at hq
    exact hq
  · cases h
theorem depotref18_Holds.calls (a0_0 : Int) (A0_1 : Option Addr) (c0_1 : Nat) (l0_1 : List (List Int)) (A1 : Option Addr) (c1 : Nat) (l1 : List Int) (A2 : Option Addr) (c2 : Nat) (l2 : List S32) (r : Bool) (w : World)
    (hr0_1 : Kd.C (Kd.slice 3 (Kd.int .i64)) w A0_1 l0_1.length l0_1) (hc0_1 : l0_1.length ≤ c0_1) (hr1 : Kd.C (Kd.int .i64) w A1 l1.length l1) (hc1 : l1.length ≤ c1) (hr2 : Kd.C k32 w A2 l2.length l2) (hc2 : l2.length ≤ c2) (h : depotref18_Holds.f a0_0 l0_1 l1 l2 = some r) :
    Calls Tryz.prog 8 #[.agg #[.int .i64 a0_0, .slice A0_1 l0_1.length c0_1], .slice A1 l1.length c1, .slice A2 l2.length c2] w fun e w' => e = .returned (.bool r) ∧ Below w.heap.size w w' := by
  unfold depotref18_Holds.f at h
  split at h
  · rename_i hS
    have hR := Option.some.inj h
    have hq := Uh.rholds_any a0_0 A0_1 c0_1 l0_1 A1 c1 l1 A2 c2 (l2.map fun s => (s.f0, s.f1)) w hr0_1 hc0_1 hr1 hc1 (Uh.sk_of_C hr2) hS.1 hS.2.1 hS.2.2.1 (by rw [List.length_map]; exact hS.2.2.2.1) (fun s hs => by obtain ⟨s', h1, rfl⟩ := List.mem_map.1 hs; exact hS.2.2.2.2 s' h1)
    rw [hR, List.length_map] at hq
    exact hq
  · cases h

end Go.Proofs.YtjhmkhbmjopmkaaGreatDoor
