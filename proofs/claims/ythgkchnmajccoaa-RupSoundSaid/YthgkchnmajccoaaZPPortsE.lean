/- Part of the proof of RupSound: what the law uses of the text PortsE. -/
import Derived.Test.YthgkchnmajccoaaZPCnI
namespace Go.Proofs.Ythgkchnmajccoaa
open Go.RowKit Go.Proofs.Ythgkchnmajccoaa.Lit Go.Proofs.Ythgkchnmajccoaa.Spr Go.Proofs.YthgkchnmajccoaaW.PrintWords
set_option linter.unusedVariables false

def cnf_Entails.f (v : Int) (cs : List (List Int)) (c : List Int) : Option (Bool × Int) := if (cs.length ≤ 5864062014800 ∧ ∀ c ∈ cs, c.length ≤ 17592186044416) ∧ c.length ≤ 17592186044416 ∧ formedB v cs = true ∧ withinB c v = true ∧ v ≤ 16 then some ((Cn.mods cs v.toNat).all fun m => c.any (Cn.tv m), 0) else none
theorem cnf_Entails.calls (a0_0 : Int) (A0_1 : Option Addr) (c0_1 : Nat) (l0_1 : List (List Int)) (A1 : Option Addr) (c1 : Nat) (l1 : List Int) (r1 : Bool) (r2 : Int) (w : World)
    (hr0_1 : Kd.C (Kd.slice 3 (Kd.int .i64)) w A0_1 l0_1.length l0_1) (hc0_1 : l0_1.length ≤ c0_1) (hr1 : Kd.C (Kd.int .i64) w A1 l1.length l1) (hc1 : l1.length ≤ c1) (h : cnf_Entails.f a0_0 l0_1 l1 = some (r1, r2)) :
    Calls Try.prog 11 #[.agg #[.int .i64 a0_0, .slice A0_1 l0_1.length c0_1], .slice A1 l1.length c1] w fun e w' => e = .returned (.tuple #[.bool r1, .int .i64 r2]) ∧ Below w.heap.size w w' := by
  unfold cnf_Entails.f at h
  split at h
  · rename_i hS
    obtain ⟨h1, h2, h3, h4, h5⟩ := hS
    have hv0 : 0 ≤ a0_0 := by unfold formedB at h3; simp only [Bool.and_eq_true, decide_eq_true_eq] at h3; exact h3.1.1
    obtain ⟨vars, rfl⟩ : ∃ n : Nat, a0_0 = n := ⟨a0_0.toNat, by omega⟩
    have hq := Cn.entails_any vars A0_1 c0_1 l0_1 A1 c1 l1 w hr0_1 hc0_1 hr1 hc1 (by omega) h3 h4 h1.1 h1.2 h2
    rw [Int.toNat_natCast] at h
    have e := Option.some.inj h
    rw [← (Prod.mk.inj e).1, ← (Prod.mk.inj e).2]
    exact hq
  · cases h

end Go.Proofs.Ythgkchnmajccoaa
