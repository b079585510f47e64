/- Part of the proof of AtmostForces: what the law uses of the text Ports. -/
import Derived.Test.YtcaoobdbgdldaaaZPUD
import Derived.Test.YtcaoobdbgdldaaaZPWWords
namespace Go.Proofs.Ytcaoobdbgdldaaa
open Go.RowKit Go.Maps Go.Proofs.YtcaoobdbgdldaaaW.PrintWords
set_option linter.unusedVariables false

theorem ic_of_C {w : World} {A : Option Addr} {xs : List Int} (h : Kd.C (Kd.int .i64) w A xs.length xs) : Lit.IC w A xs := fun k hk => by
  obtain ⟨ad, e, hc⟩ := Kd.at_int h (k : Int) (by omega) (by omega)
  exact ⟨ad, e, by simpa [rd] using hc⟩
theorem rc_of_C {w : World} {A : Option Addr} {cs : List (List Int)} (h : Kd.C (Kd.slice 3 (Kd.int .i64)) w A cs.length cs) : Spr.RC w A cs := fun k hk => by
  obtain ⟨ad, c, e, _, hK, hc0⟩ := Kd.C_get h ([] : List Int) (k : Int) (by omega) (by omega)
  have hc : ∀ j u, c[j]? = some u → w.cell? (ad.add ((k : Int).toNat * 1 + j)) = some u := hc0
  obtain ⟨A0, c0, rfl, l0, g0⟩ := hK
  have hq := hc 0 _ rfl
  rw [Nat.mul_one, Nat.add_zero, Int.toNat_natCast] at hq
  exact ⟨ad, A0, c0, e, hq, ic_of_C g0⟩
theorem ints_encs (xs : List Int) : Spr.ints .i64 xs = encs (Value.int .i64) xs := rfl
theorem r_of_own {w : World} {B : Nat} {v : Value} {xs : List Int} (h : w.ownsRow B 3 1 v (Spr.ints .i64 xs).length (Spr.ints .i64 xs)) : Kd.R (Kd.int .i64) 3 w B (fun _ => True) v xs :=
  Kd.R_of_own (by rw [ints_encs] at h; rw [encs_length] at h; exact h) (fun _ _ => trivial)

instance (cs : List (List Int)) (F : List Int) : Decidable (Spr.Fits cs F) := by unfold Spr.Fits; infer_instance

def unit_Close.f (v : Int) (cs : List (List Int)) (F : List Int) : Option (List Int × Bool × Int) := if Spr.Fits cs F then some (Spr.closeR v cs F) else none
theorem unit_Close.calls (a0_0 : Int) (A0_1 : Option Addr) (c0_1 : Nat) (l0_1 : List (List Int)) (A1 : Option Addr) (c1 : Nat) (l1 : List Int) (r1 : List Int) (r2 : Bool) (r3 : Int) (w : World)
    (hr0_1 : Kd.C (Kd.slice 3 (Kd.int .i64)) w A0_1 l0_1.length l0_1) (hc0_1 : l0_1.length ≤ c0_1) (hr1 : Kd.C (Kd.int .i64) w A1 l1.length l1) (hc1 : l1.length ≤ c1) (h : unit_Close.f a0_0 l0_1 l1 = some (r1, r2, r3)) :
    Calls Try.prog 9 #[.agg #[.int .i64 a0_0, .slice A0_1 l0_1.length c0_1], .slice A1 l1.length c1] w fun e w' => ∃ v0_ : Value, e = .returned (.tuple #[v0_, .bool r2, .int .i64 r3]) ∧ Kd.R (Kd.int .i64) 3 w' w.heap.size (fun _ => True) v0_ r1 ∧ Below w.heap.size w w' := by
  unfold unit_Close.f at h
  split at h
  · rename_i hS
    have hR := Option.some.inj h
    refine (Spr.close_any a0_0 A0_1 c0_1 l0_1 A1 c1 l1 w (rc_of_C hr0_1) (ic_of_C hr1) hS).mono fun e w' hp => ?_
    rw [hR] at hp
    obtain ⟨u, he, ho, hb⟩ := hp
    exact ⟨u, he, r_of_own ho, hb⟩
  · cases h

end Go.Proofs.Ytcaoobdbgdldaaa
