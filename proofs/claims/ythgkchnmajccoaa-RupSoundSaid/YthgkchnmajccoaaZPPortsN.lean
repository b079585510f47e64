/- Part of the proof of RupSound: what the law uses of the text PortsN. -/
import Derived.Test.YthgkchnmajccoaaZPCnH
namespace Go.Proofs.Ythgkchnmajccoaa
open Go.RowKit Go.Proofs.Ythgkchnmajccoaa.Lit Go.Proofs.Ythgkchnmajccoaa.Spr Go.Proofs.YthgkchnmajccoaaW.PrintWords
set_option linter.unusedVariables false

def cnf_Count.f (v : Int) (cs : List (List Int)) : Option (Int × Int) := if cs.length ≤ 5864062014800 ∧ ∀ c ∈ cs, c.length ≤ 17592186044416 then some (Cn.countW v cs) else none
theorem cnf_Count.calls (a0_0 : Int) (A0_1 : Option Addr) (c0_1 : Nat) (l0_1 : List (List Int)) (r1 r2 : Int) (w : World)
    (hr0_1 : Kd.C (Kd.slice 3 (Kd.int .i64)) w A0_1 l0_1.length l0_1) (hc0_1 : l0_1.length ≤ c0_1) (h : cnf_Count.f a0_0 l0_1 = some (r1, r2)) :
    Calls Try.prog 10 #[.agg #[.int .i64 a0_0, .slice A0_1 l0_1.length c0_1]] w fun e w' => e = .returned (.tuple #[.int .i64 r1, .int .i64 r2]) ∧ Below w.heap.size w w' := by
  unfold cnf_Count.f at h
  split at h
  · rename_i hS
    have hq := Cn.count_any a0_0 A0_1 c0_1 l0_1 w hr0_1 hc0_1 hS.1 hS.2
    rw [Option.some.inj h] at hq
    exact hq
  · cases h

end Go.Proofs.Ythgkchnmajccoaa
