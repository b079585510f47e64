/- Part of the proof of TrimNumbers: what the law uses of the text Ports. -/
import Derived.Test.YtfljggodnnpeiaaZNUD
import Derived.Test.YtfljggodnnpeiaaZNWWords
namespace Go.Proofs.Ytfljggodnnpeiaa
open Go.RowKit Go.Maps Go.Proofs.YtfljggodnnpeiaaW.PrintWords
set_option linter.unusedVariables false

theorem ic_of_C {w : World} {A : Option Addr} {xs : List Int} (h : Kd.C (Kd.int .i64) w A xs.length xs) : Lit.IC w A xs := fun k hk => by
  obtain ⟨ad, e, hc⟩ := Kd.at_int h (k : Int) (by omega) (by omega)
  exact ⟨ad, e, by simpa [rd] using hc⟩
theorem rc_of_C {w : World} {A : Option Addr} {cs : List (List Int)} (h : Kd.C (Kd.slice 3 (Kd.int .i64)) w A cs.length cs) : Spr.RC w A cs := fun k hk => by
  obtain ⟨ad, c, e, _, hK, hc0⟩ := Kd.C_get h ([] : List Int) (k : Int) (by omega) (by omega)
  have hc : ∀ j u, c[j]? = some u → w.cell? (ad.add ((k : Int).toNat * 1 + j)) = some u := hc0
  obtain ⟨A0, c0, rfl, l0, g0⟩ := hK
  have hq := hc 0 _ rfl
  rw [Nat.mul_one, Nat.add_zero, Int.toNat_natCast] at hq
  exact ⟨ad, A0, c0, e, hq, ic_of_C g0⟩
instance (cs : List (List Int)) (F : List Int) : Decidable (Spr.Fits cs F) := by unfold Spr.Fits; infer_instance

end Go.Proofs.Ytfljggodnnpeiaa
