/- Part of the proof of AtmostForces: what the law uses of the text AtA. -/
import Derived.Test.YtcaoobdbgdldaaaZPPorts
import Derived.Test.YtcaoobdbgdldaaaZPWApart
namespace Go.Proofs.Ytcaoobdbgdldaaa.Spr
open Go.RowKit Go.Maps Go.Proofs.Ytcaoobdbgdldaaa.Lit Go.Proofs.YtcaoobdbgdldaaaW.PrintWords
set_option linter.unusedVariables false
set_option linter.unusedSimpArgs false

def Counts (D : DataW Unit) (K : List Int) (N : Nat) : Prop := ∀ x : Int, ∃ z : Int, D.atKey (.int .i64 x) (dI 0) = dI z ∧ 0 ≤ z ∧ z ≤ N ∧ (0 < z ↔ x ∈ K)
theorem Counts.init : Counts (.map []) [] 0 := fun x => ⟨0, rfl, by omega, by omega, by simp⟩
theorem Counts.put {D : DataW Unit} {K : List Int} {N : Nat} (h : Counts D K N) (hD : IsMap D) (x z : Int) (hz : D.atKey (.int .i64 x) (dI 0) = dI z) : Counts (D.put (.int .i64 x) (dI (z + 1))) (K ++ [x]) (N + 1) := by
  intro y
  by_cases hy : y = x
  · subst hy
    obtain ⟨z', h1, h2, h3, h4⟩ := h y
    have e : z' = z := by have := h1.symm.trans hz; simpa [dI] using this
    subst e
    exact ⟨z' + 1, atKey_put_same hD (IsKeyLit_int y) _ _, by omega, by omega, by simp; omega⟩
  · have hne : (Lit.int .i64 y) ≠ (Lit.int .i64 x) := fun e => hy (by injection e)
    obtain ⟨z', h1, h2, h3, h4⟩ := h y
    refine ⟨z', (atKey_put_other hne _ _).trans h1, h2, by omega, h4.trans ?_⟩
    rw [List.mem_append, List.mem_singleton]
    exact ⟨.inl, fun h => h.resolve_right hy⟩

def KnownR (W : World) (b : Nat) (K : List Int) (wr : World) : Prop :=
  ∃ D, wr.ownsMap Try.prog 3 (plainElem Try.prog 3) b K.length D ∧ Counts D K K.length ∧ Below W.heap.size W wr ∧ W.heap.size ≤ b
theorem KnownR.init {W w : World} (hb : Below W.heap.size W w) : KnownR W w.heap.size [] (w.alloc (.map #[] 0)) :=
  ⟨_, World.ownsMap_made w _ _ _, Counts.init, hb.alloc hb.size _, hb.size⟩
theorem KnownR.put {W : World} {b : Nat} {K : List Int} {wr w5 : World} {D : DataW Unit} (hK : wr.ownsMap Try.prog 3 (plainElem Try.prog 3) b K.length D) (hD : Counts D K K.length) (hb : Below W.heap.size W wr) (hbb : W.heap.size ≤ b) {x z : Int}
    (hz : D.atKey (.int .i64 x) (dI 0) = dI z) (h5 : w5.ownsMap Try.prog 3 (plainElem Try.prog 3) b (K.length + 1) (D.put (.int .i64 x) (dI (z + 1)))) (hg : wr.grownBy w5 (some b)) : KnownR W b (K ++ [x]) w5 := by
  refine ⟨_, by rw [List.length_append]; exact h5, by rw [List.length_append]; exact hD.put hK.isMap x z hz, hb.trans (below_stay hg hb.size (fun k e => by cases e; exact hbb)), hbb⟩
def helpersI (n k : Int) : Int := if k = 0 ∨ k ≥ n then 0 else (n - 1) * k
theorem helpers_any (n k : Int) (w : World) (hn : 0 ≤ n ∧ n ≤ 1000) (hk : 0 ≤ k ∧ k ≤ 1000) : Calls Try.prog 11 #[.int .i64 n, .int .i64 k] w fun e w' => e = .returned (.int .i64 (helpersI n k)) ∧ w = w' := by
  unfold helpersI
  obtain ⟨n0, n1⟩ := hn
  obtain ⟨k0, k1⟩ := hk
  by_cases h1 : k = 0
  · subst h1
    rw [if_pos (.inl rfl)]
    go_enter Try.func11, Try.ntmps11
    go_wp2
    go_ret
    exact ⟨rfl, rfl⟩
  · have h1b : (k == 0) = false := by simpa using h1
    by_cases h2 : k ≥ n
    · rw [if_pos (.inr h2)]
      have h2b : decide (k ≥ n) = true := decide_eq_true h2
      go_enter Try.func11, Try.ntmps11
      go_wp2
      go_ret
      exact ⟨rfl, rfl⟩
    · rw [if_neg (fun h => h.elim h1 h2)]
      have h2b : decide (k ≥ n) = false := decide_eq_false h2
      have hm0 : 0 ≤ (n - 1) * k := Int.mul_nonneg (by omega) k0
      have hm1 : (n - 1) * k ≤ 1000 * 1000 := Int.mul_le_mul (by omega) k1 k0 (by omega)
      clear h1 h2
      go_enter Try.func11, Try.ntmps11
      go_wp2
      go_ret
      exact ⟨rfl, rfl⟩

def sI (first k i j : Int) : Int := first + (i - 1) * k + j - 1
theorem s_any (bf bk : Nat) (first k i j : Int) (w : World) (hf : w.cell? ⟨bf, 0, none⟩ = some (.int .i64 first)) (hk : w.cell? ⟨bk, 0, none⟩ = some (.int .i64 k)) (h1 : 0 ≤ first ∧ first ≤ 100000) (h2 : 0 ≤ k ∧ k ≤ 1000) (h3 : 1 ≤ i ∧ i ≤ 1000) (h4 : 0 ≤ j ∧ j ≤ 1000) :
    Calls Try.prog 13 #[.int .i64 i, .int .i64 j, .pointer (some ⟨bf, 0, none⟩), .pointer (some ⟨bk, 0, none⟩)] w fun e w' => e = .returned (.int .i64 (sI first k i j)) ∧ w = w' := by
  unfold sI
  have hm0 : 0 ≤ (i - 1) * k := Int.mul_nonneg (by omega) h2.1
  have hm1 : (i - 1) * k ≤ 1000 * 1000 := Int.mul_le_mul (by omega) h2.2 h2.1 (by omega)
  obtain ⟨f0, f1⟩ := h1
  obtain ⟨i0, i1⟩ := h3
  obtain ⟨j0, j1⟩ := h4
  obtain ⟨k0, k1⟩ := h2
  go_enter Try.func13, Try.ntmps13
  go_wp2
  go_ret
  exact ⟨rfl, rfl⟩

end Go.Proofs.Ytcaoobdbgdldaaa.Spr
