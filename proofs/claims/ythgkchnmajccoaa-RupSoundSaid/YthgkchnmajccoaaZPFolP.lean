/- Part of the proof of RupSound: what the law uses of the text FolP. -/
import Derived.Test.YthgkchnmajccoaaZPUpD
import Derived.Test.YthgkchnmajccoaaZPFollows
namespace Go.Proofs.Ythgkchnmajccoaa.Rf
open Go.RowKit Go.Proofs.Ythgkchnmajccoaa.Lit Go.Proofs.Ythgkchnmajccoaa.Spr
set_option linter.unusedVariables false
set_option linter.unusedSimpArgs false

theorem formed_all {v : Int} {cs : List (List Int)} (h : formedB v cs = true) : (0 ≤ v ∧ v ≤ 1048576) ∧ ∀ c ∈ cs, ∀ x ∈ c, fm x = true := by
  unfold formedB at h
  simp only [Bool.and_eq_true, decide_eq_true_eq] at h
  refine ⟨h.1, fun c hc x hx => ?_⟩
  have := List.all_eq_true.1 h.2 c hc
  unfold withinB at this
  rw [Bool.and_eq_true] at this
  exact List.all_eq_true.1 this.1 x hx
theorem fitsE {cs : List (List Int)} {F : List Int} (h24 : cs.length * 24 ≤ 140737488351232) (h8 : ∀ x ∈ cs, x.length * 8 ≤ 140737488351232) (hF : F.length ≤ 17592186044416) : Fits cs F := ⟨by omega, fun x hx => by have := h8 x hx; omega, hF⟩

end Go.Proofs.Ythgkchnmajccoaa.Rf
