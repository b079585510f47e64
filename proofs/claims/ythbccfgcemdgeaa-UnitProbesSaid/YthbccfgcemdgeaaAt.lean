/- lits.At: what it comes to. -/
import Derived.Test.YthbccfgcemdgeaaProbeP
namespace Go.Proofs.Ythbccfgcemdgeaa.Spr
open Go.RowKit Go.Maps Go.Proofs.Ythbccfgcemdgeaa.Lit
set_option linter.unusedVariables false

theorem litAt_even {i : Int} (h0 : 0 ≤ i) (h1 : i < 2097152) (h2 : ¬ i % 2 = 1) : litAt i = i / 2 + 1 := by
  unfold litAt; rw [if_neg (by omega), if_neg h2]
theorem litAt_odd {i : Int} (h0 : 0 ≤ i) (h1 : i < 2097152) (h2 : i % 2 = 1) : litAt i = -(i / 2 + 1) := by
  unfold litAt; rw [if_neg (by omega), if_pos h2]
theorem litAt_fm {i : Int} (h0 : 0 ≤ i) (h1 : i < 2097152) : fm (litAt i) = true := by
  by_cases h : i % 2 = 1
  · rw [litAt_odd h0 h1 h]; exact decide_eq_true (by omega)
  · rw [litAt_even h0 h1 h]; exact decide_eq_true (by omega)
set_option maxHeartbeats 1000000 in
theorem at_any (i : Int) (h0 : 0 ≤ i) (h1 : i < 2097152) (w : World) : Calls Try.prog 65 #[.int .i64 i] w fun e w' => e = .returned (.int .i64 (litAt i)) ∧ w = w' := by
  have c1 : decide (i < 0) = false := decide_eq_false (by omega)
  have c2 : decide (2097152 ≤ i) = false := decide_eq_false (by omega)
  have hd : i.tdiv 2 = i / 2 := by rw [Int.tdiv_eq_ediv_of_nonneg h0]
  have hm : i.tmod 2 = i % 2 := by rw [Int.tmod_eq_emod_of_nonneg h0]
  by_cases h : i % 2 = 1
  · rw [litAt_odd h0 h1 h]
    have c3 : (i.tmod 2 == 1) = true := by rw [hm]; exact beq_iff_eq.2 h
    go_enter Try.func65, Try.ntmps65
    go_wp2
    all_goals go_ret
    all_goals exact ⟨rfl, rfl⟩
  · rw [litAt_even h0 h1 h]
    have c3 : (i.tmod 2 == 1) = false := by rw [hm]; exact beq_false_of_ne h
    go_enter Try.func65, Try.ntmps65
    go_wp2
    all_goals go_ret
    all_goals exact ⟨rfl, rfl⟩
end Go.Proofs.Ythbccfgcemdgeaa.Spr
