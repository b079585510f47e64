/- Part of the proof of TrimRight: what the law uses of the text Says. -/
import Derived.Test.YtfljggodnnpeiaaZRUD
namespace Go.Proofs.Ytfljggodnnpeiaa.Spr
open Go.RowKit Go.Maps Go.Proofs.Ytfljggodnnpeiaa.Lit
set_option linter.unusedVariables false
set_option linter.unusedSimpArgs false

def Counts (D : DataW Unit) (K : List Int) (N : Nat) : Prop := ∀ x : Int, ∃ z : Int, D.atKey (.int .i64 x) (dI 0) = dI z ∧ 0 ≤ z ∧ z ≤ N ∧ (0 < z ↔ x ∈ K)
theorem Counts.init : Counts (.map []) [] 0 := fun x => ⟨0, rfl, by omega, by omega, by simp⟩
theorem Counts.put {D : DataW Unit} {K : List Int} {N : Nat} (h : Counts D K N) (hD : IsMap D) (x z : Int) (hz : D.atKey (.int .i64 x) (dI 0) = dI z) : Counts (D.put (.int .i64 x) (dI (z + 1))) (K ++ [x]) (N + 1) := by
  intro y
  by_cases hy : y = x
  · subst hy
    obtain ⟨z', h1, h2, h3, h4⟩ := h y
    have e : z' = z := by have := h1.symm.trans hz; simpa [dI] using this
    subst e
    exact ⟨z' + 1, atKey_put_same hD (IsKeyLit_int y) _ _, by omega, by omega, by simp; omega⟩
  · have hne : (Lit.int .i64 y) ≠ (Lit.int .i64 x) := fun e => hy (by injection e)
    obtain ⟨z', h1, h2, h3, h4⟩ := h y
    refine ⟨z', (atKey_put_other hne _ _).trans h1, h2, by omega, h4.trans ?_⟩
    rw [List.mem_append, List.mem_singleton]
    exact ⟨.inl, fun h => h.resolve_right hy⟩

end Go.Proofs.Ytfljggodnnpeiaa.Spr
