/- Part of the proof of ForwardChecks: what the law uses of the text PortsJ. -/
import Derived.Test.YtcaoobdbgdldaaaGreatDoorZPFwK
import Derived.Test.YtcaoobdbgdldaaaGreatDoorZPPorts
import Derived.Test.YtcaoobdbgdldaaaGreatDoorZPP0
import Derived.Laws.CopyOwn
namespace Go.Proofs.YtcaoobdbgdldaaaGreatDoor
open Go.RowKit Go.Maps Go.Proofs.YtcaoobdbgdldaaaGreatDoor.Lit Go.Proofs.YtcaoobdbgdldaaaGreatDoor.P Go.Proofs.YtcaoobdbgdldaaaGreatDoorW.PrintWords
set_option linter.unusedVariables false

theorem sc_of_C {w : World} {A : Option Addr} {l : List S42} (h : Kd.C k42 w A l.length l) : Fwd.SC w A (l.map fun s => (s.f0, s.f1)) := fun k hk => by
  have hk' : k < l.length := by simpa using hk
  obtain ⟨ad, A1, c1, e, h1, h2, _, h3⟩ := at_T42 h (k : Int) (by omega) (by omega)
  have e2 : (l.map fun s : S42 => (s.f0, s.f1)).getD k (false, []) = ((rd_T42 l (k : Int)).f0, (rd_T42 l (k : Int)).f1) := by
    unfold rd_T42
    rw [Int.toNat_natCast, List.getD_eq_getElem?_getD, List.getElem?_map, List.getD_eq_getElem?_getD, List.getElem?_eq_getElem hk']
    rfl
  rw [e2]
  rw [Int.toNat_natCast] at h1 h2
  exact ⟨ad, A1, c1, e, h1, h2, ic_of_C h3⟩

def CFits (cs : List (List Int)) (l : List S42) : Prop := cs.length ≤ 2097152 ∧ (∀ c ∈ cs, c.length ≤ 2097152) ∧ l.length ≤ 2097152 ∧ ∀ s ∈ l, s.f1.length ≤ 2097152
instance (cs : List (List Int)) (l : List S42) : Decidable (CFits cs l) := by unfold CFits; infer_instance
def forward_Check.f (v : Int) (cs : List (List Int)) (l : List S42) : Option (Int × Int × Int) := if CFits cs l then some (Fwd.checkW v cs (l.map fun s => (s.f0, s.f1))) else none
theorem forward_Check.calls (a0_0 : Int) (A0_1 : Option Addr) (c0_1 : Nat) (l0_1 : List (List Int)) (A1 : Option Addr) (c1 : Nat) (l1 : List S42) (r1 r2 r3 : Int) (w : World) (hT : Fwd.Tab w)
    (hr0_1 : Kd.C (Kd.slice 3 (Kd.int .i64)) w A0_1 l0_1.length l0_1) (hc0_1 : l0_1.length ≤ c0_1) (hr1 : Kd.C k42 w A1 l1.length l1) (hc1 : l1.length ≤ c1) (h : forward_Check.f a0_0 l0_1 l1 = some (r1, r2, r3)) :
    Calls Tryz.prog 10 #[.agg #[.int .i64 a0_0, .slice A0_1 l0_1.length c0_1], .slice A1 l1.length c1] w fun e w' => e = .returned (.tuple #[.agg #[.int .i64 r1, .int .i64 r2], .int .i64 r3]) ∧ Below w.heap.size w w' := by
  unfold forward_Check.f at h
  split at h
  · rename_i hS
    have hR := Option.some.inj h
    have hq := Fwd.check_any a0_0 A0_1 c0_1 l0_1 A1 c1 (l1.map fun s => (s.f0, s.f1)) w (rc_of_C hr0_1) (sc_of_C hr1) hS.1 hS.2.1 (by rw [List.length_map]; exact hS.2.2.1) (fun s hs => by obtain ⟨s', h1, rfl⟩ := List.mem_map.1 hs; exact hS.2.2.2 s' h1) hT
    rw [hR, List.length_map] at hq
    exact hq
  · cases h

end Go.Proofs.YtcaoobdbgdldaaaGreatDoor
