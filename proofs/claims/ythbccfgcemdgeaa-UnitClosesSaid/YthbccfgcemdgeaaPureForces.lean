/- UnitForces and UnitCloses as plain statements: the laws' plain functions answer true. -/
import Derived.Test.YthbccfgcemdgeaaRefD
namespace Go.Proofs.Ythbccfgcemdgeaa.Pure
open Go.RowKit Go.Proofs.Ythbccfgcemdgeaa.P Go.Proofs.Ythbccfgcemdgeaa.Lit Go.Proofs.Ythbccfgcemdgeaa.Spr Go.Proofs.Ythbccfgcemdgeaa.Rf Go.Proofs.YthbccfgcemdgeaaW.PrintWords Go.Proofs.YthbccfgcemdgeaaW.PrintLast

theorem fits {cs : List (List Int)} {F : List Int} (h24 : cs.length * 24 ≤ 140737488351232) (h8 : ∀ x ∈ cs, x.length * 8 ≤ 140737488351232) (hF : F.length * 8 ≤ 140737488351232) : Fits cs F := ⟨by omega, fun x hx => by have := h8 x hx; omega, by omega⟩
theorem closeI (v : Int) {cs : List (List Int)} {F : List Int} (h : Fits cs F) : unit_Close.f v cs F = some (closeR v cs F) := by unfold unit_Close.f; rw [if_pos h]
theorem forcesI (v : Int) {cs : List (List Int)} {F : List Int} (l : Int) (h : Fits cs F) : unit_Forces.f v cs F l = some (forcesR v cs F l) := by unfold unit_Forces.f; rw [if_pos h]
theorem close_len (v : Int) (cs : List (List Int)) (F : List Int) : (closeR v cs F).1.length ≤ 2097152 := by
  unfold closeR
  split
  · split
    · exact tidy_len _
    · exact Nat.zero_le _
  · exact Nat.zero_le _

theorem UnitForces (v : Int) (cs : List (List Int)) (F : List Int) (l : Int) (h24 : cs.length * 24 ≤ 140737488351232) (h8 : ∀ x ∈ cs, x.length * 8 ≤ 140737488351232) (hF : F.length * 8 ≤ 140737488351232) (_ : (Lit.int .i64 l).wf = true) : ∃ k, depotlaw06_UnitForces.f k v cs F l = some true := by
  have h82 : ∀ x ∈ cs, x.length ≤ 17592186044416 := fun x hx => by have := h8 x hx; omega
  refine Ev.rounds ?_
  unfold depotlaw06_UnitForces.f
  refine Ev.bind (copyFormula v cs (by omega) h82) ?_
  refine Ev.bind (copyInts F (by omega)) ?_
  refine Ev.bind (a := forcesR v cs F l) (Ev.congr (fun k => forcesI v l (fits h24 h8 hF)) (Ev.now _)) ?_
  refine Ev.bind (forces06 v cs F l (by omega) (fun x hx => by have := h8 x hx; omega) (by omega)) ?_
  exact Ev.congr (fun k => by rw [if_pos (beq_self_eq_true _), beq_self_eq_true]) (Ev.now _)

theorem UnitCloses (v : Int) (cs : List (List Int)) (F : List Int) (h24 : cs.length * 24 ≤ 140737488351232) (h8 : ∀ x ∈ cs, x.length * 8 ≤ 140737488351232) (hF : F.length * 8 ≤ 140737488351232) : ∃ k, depotlaw06_UnitCloses.f k v cs F = some true := by
  have h82 : ∀ x ∈ cs, x.length ≤ 17592186044416 := fun x hx => by have := h8 x hx; omega
  refine Ev.rounds ?_
  unfold depotlaw06_UnitCloses.f
  refine Ev.bind (copyFormula v cs (by omega) h82) ?_
  refine Ev.bind (copyInts F (by omega)) ?_
  refine Ev.bind (a := closeR v cs F) (Ev.congr (fun k => closeI v (fits h24 h8 hF)) (Ev.now _)) ?_
  refine Ev.bind (close06 v cs F (by omega) (fun x hx => by have := h8 x hx; omega) (by omega)) ?_
  refine Ev.congr (fun k => by rw [if_pos (beq_self_eq_true _), if_pos rfl]) ?_
  have hs := sameInts (closeR v cs F).1 (by have := close_len v cs F; omega)
  exact Ev.bind hs (Ev.now _)

end Go.Proofs.Ythbccfgcemdgeaa.Pure
