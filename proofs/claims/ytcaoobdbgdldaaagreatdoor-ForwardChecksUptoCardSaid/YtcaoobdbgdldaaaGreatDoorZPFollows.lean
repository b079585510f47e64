/- Part of the proof of ForwardChecks: what the law uses of the text Follows. -/
import Derived.Test.YtcaoobdbgdldaaaGreatDoorZPJUpA
namespace Go.Proofs.YtcaoobdbgdldaaaGreatDoor.Spr
open Go.RowKit Go.Maps Go.Proofs.YtcaoobdbgdldaaaGreatDoor.Lit
set_option linter.unusedVariables false

set_option maxHeartbeats 1000000 in
set_option maxRecDepth 100000 in
theorem catch_clash (b : Nat) (older : List PanicEntry) (w : World) (hc : w.cell? ⟨b, 0, none⟩ = some (.bool false)) (hz : w.frozen? ⟨b, 0, none⟩ = false) :
    CallsD Tryz.prog 118 #[.pointer (some ⟨b, 0, none⟩)] (.panicking ({ v := clashV, recovered := false } :: older)) w fun e u' w' =>
      e = .returned (.tuple #[]) ∧ u' = .panicking ({ v := clashV, recovered := true } :: older) ∧ w' = (w.alloc (.cells #[] 136)).setCell ⟨b, 0, none⟩ (.bool true) := by
  have hb : b < w.heap.size := World.block_lt_of_cell? w _ hc
  have hB : Below w.heap.size w (w.alloc (.cells #[] 136)) := (Below.refl _ _).alloc (Nat.le_refl _) _
  have hc2 := (hB.cell (p := ⟨b, 0, none⟩) hb).trans hc
  have hz2 := (hB.frozen (p := ⟨b, 0, none⟩) hb).trans hz
  clear hb hB
  refine callsD_of_wpS Tryz.func118 rfl fun c₀ cs hu => ?_
  apply wpS_seq
  apply wpS_region
  simp [wpOpsS, go_sem, recoverD, hu, Tryz.ntmps118, Exit.thenS]
  refine wpS_of_wp ?_
  have e : (#[Value.pointer (some ⟨b, 0, none⟩)] ++ (Array.replicate 9 undef).setIfInBounds 3 clashV) = #[.pointer (some ⟨b, 0, none⟩), undef, undef, undef, .iface 136 (.agg #[]), undef, undef, undef, undef, undef] := by rfl
  rw [e]
  have hta : ∀ w : World, (Instr.typeAssert (.iface 136 (.agg #[])) 20 136 true).run Tryz.prog w = .ok (.tuple #[.agg #[], .bool true]) w := fun w => by kernel_rfl
  go_wp2
  cases c₀
  simp_all [bodyPostS, results, Tryz.results118]

set_option maxHeartbeats 1000000 in
theorem catch_none (p : Addr) (w : World) (hc : w.cell? p = some (.bool false)) (hz : w.frozen? p = false) :
    CallsD Tryz.prog 118 #[.pointer (some p)] .returning w fun e u' w' =>
      e = .returned (.tuple #[]) ∧ u' = .returning ∧ w' = w := by
  refine callsD_of_wpS Tryz.func118 rfl fun c₀ cs hu => ?_
  apply wpS_seq
  apply wpS_region
  simp [wpOpsS, go_sem, recoverD, hu, Tryz.ntmps118, Exit.thenS]
  refine wpS_of_wp ?_
  go_wp2
  cases c₀
  simp_all [bodyPostS, results, Tryz.results118]

def followsR (v : Int) (cs : List (List Int)) (c : List Int) : Bool := (closeR v cs (negL c)).2.1

set_option maxHeartbeats 2000000 in
set_option maxRecDepth 100000 in
theorem follows_any (v : Int) (A : Option Addr) (c0 : Nat) (cs : List (List Int)) (Af : Option Addr) (cf : Nat) (c : List Int) (w : World) (hC : RC w A cs) (hF : IC w Af c) (hS : Fits cs c) (hfm : ∀ l ∈ c, fm l = true) :
    Calls Tryz.prog 94 #[.agg #[.int .i64 v, .slice A cs.length c0], .slice Af c.length cf] w fun e w' => e = .returned (.bool (followsR v cs c)) ∧ Below w.heap.size w w' := by
  have hmf : ∀ (fn : Fn) (first cap : Array Value) (w : World), (Instr.makeFunc fn first cap).run Tryz.prog w = .ok (.func fn first cap) w := fun _ _ _ _ => rfl
  unfold followsR
  have HM := Lib.hid (fun (w2 : World) (hb : Below w.heap.size w w2) => meet_any v A c0 cs Af cf c w2 (hC.below hb) (hF.below hb) hS hfm)
  unfold MeetPost at HM
  have hW : Below w.heap.size w ((w.alloc (.cells #[.int .i64 v, .slice A cs.length c0] 24)).alloc (.cells #[.bool false] 4)) := ((Below.refl _ _).alloc (Nat.le_refl _) _).alloc (by simp) _
  have HM2 := Lib.hid (HM.out _ hW)
  have HW := Lib.hid hW
  have hcW : ((w.alloc (.cells #[.int .i64 v, .slice A cs.length c0] 24)).alloc (.cells #[.bool false] 4)).cell? ⟨w.heap.size + 1, 0, none⟩ = some (.bool false) := by simp
  have hfW : ((w.alloc (.cells #[.int .i64 v, .slice A cs.length c0] 24)).alloc (.cells #[.bool false] 4)).frozen? ⟨w.heap.size + 1, 0, none⟩ = false := by simp
  have HCW := Lib.hid (And.intro hcW hfW)
  generalize (closeR v cs (negL c)).2.1 = b at *
  generalize c.length = n at *
  clear hC hF hS hfm hW HM hcW hfW
  cases b with
  | true =>
    go_enter_defers Tryz.func94, Tryz.ntmps94
    go_wp2_with (go_at_call 119; refine HM2.out.mono ?_; rintro e w5 ⟨rfl, hb5⟩; have HB5 := Lib.hid hb5; have hc5 := (hb5.cell (p := ⟨w.heap.size + 1, 0, none⟩) (by simp)).trans HCW.out.1; have hf5 := (hb5.frozen (p := ⟨w.heap.size + 1, 0, none⟩) (by simp)).trans HCW.out.2; clear hb5)
    have hlt5 : w.heap.size + 1 < w5.heap.size := World.block_lt_of_cell? w5 _ hc5
    have hb6 : Below w5.heap.size w5 (w5.alloc (.cells #[] 136)) := (Below.refl _ _).alloc (Nat.le_refl _) _
    have hc6 := (hb6.cell (p := ⟨w.heap.size + 1, 0, none⟩) hlt5).trans hc5
    have hr6 : ((w5.alloc (.cells #[] 136)).setCell ⟨w.heap.size + 1, 0, none⟩ (.bool true)).cell? ⟨w.heap.size + 1, 0, none⟩ = some (.bool true) := World.cell?_setCell_same _ _ _ hc6
    refine leaves_cons (f := 118) (args := #[.pointer (some ⟨w.heap.size + 1, 0, none⟩)]) (by simp) (by simp [go_sem]) ?_
    refine (catch_clash (w.heap.size + 1) [] _ hc5 hf5).mono ?_
    rintro e u' w'' ⟨rfl, rfl, rfl⟩
    refine ⟨.bool true, ?_, rfl, ?_⟩
    · simp [results, Tryz.results94, go_sem, hr6]
    · exact HW.out.trans (((HB5.out.trans (hb6.mono HB5.out.size)).mono HW.out.size).setCell (by simp) _)
  | false =>
    go_enter_defers Tryz.func94, Tryz.ntmps94
    go_wp2_with (go_at_call 119; refine HM2.out.mono ?_; rintro e w5 ⟨rfl, hb5⟩; have HB5 := Lib.hid hb5; have hc5 := (hb5.cell (p := ⟨w.heap.size + 1, 0, none⟩) (by simp)).trans HCW.out.1; have hf5 := (hb5.frozen (p := ⟨w.heap.size + 1, 0, none⟩) (by simp)).trans HCW.out.2; clear hb5)
    have hr6 : (w5.setCell ⟨w.heap.size + 1, 0, none⟩ (.bool false)).cell? ⟨w.heap.size + 1, 0, none⟩ = some (.bool false) := World.cell?_setCell_same _ _ _ hc5
    have hf6 : (w5.setCell ⟨w.heap.size + 1, 0, none⟩ (.bool false)).frozen? ⟨w.heap.size + 1, 0, none⟩ = false := by rw [World.frozen?_setCell]; exact hf5
    refine leaves_cons (f := 118) (args := #[.pointer (some ⟨w.heap.size + 1, 0, none⟩)]) (by simp) (by simp [go_sem]) ?_
    refine (catch_none ⟨w.heap.size + 1, 0, none⟩ _ hr6 hf6).mono ?_
    rintro e u' w'' ⟨rfl, rfl, rfl⟩
    refine ⟨.bool false, ?_, rfl, ?_⟩
    · simp [results, Tryz.results94, go_sem, hr6]
    · exact HW.out.trans ((HB5.out.mono HW.out.size).setCell (by simp) _)

end Go.Proofs.YtcaoobdbgdldaaaGreatDoor.Spr
