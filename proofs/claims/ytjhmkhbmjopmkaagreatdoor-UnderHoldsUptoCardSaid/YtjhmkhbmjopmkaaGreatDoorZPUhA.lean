/- Part of the proof of UnderHolds: what the law uses of the text UhA. -/
import Derived.Test.YtjhmkhbmjopmkaaGreatDoorZPFcR
import Derived.Test.YtjhmkhbmjopmkaaGreatDoorZPFwL
import Derived.Test.YtjhmkhbmjopmkaaGreatDoorZPP7
import Derived.Test.YtjhmkhbmjopmkaaGreatDoorZPP8
namespace Go.Proofs.YtjhmkhbmjopmkaaGreatDoor.Uh
open Go.RowKit Go.Shelf Go.Maps Go.Proofs.YtjhmkhbmjopmkaaGreatDoor.Lit Go.Proofs.YtjhmkhbmjopmkaaGreatDoor.Spr Go.Proofs.YtjhmkhbmjopmkaaGreatDoor.P Go.Proofs.YtjhmkhbmjopmkaaGreatDoor.Rf Go.Proofs.YtjhmkhbmjopmkaaGreatDoor.Rfw Go.Proofs.YtjhmkhbmjopmkaaGreatDoorW.PrintWords
set_option linter.unusedVariables false
set_option linter.unusedSimpArgs false

def hstepW (F : Fwd.Fw) (d : Bool) (c : List Int) : Option Fwd.Fw :=
  if d = true then (if (Fwd.dropW F c).2.1 = 0 then (if (Fwd.dropW F c).1 = 0 then none else some (Fwd.dropW F c).2.2) else none)
  else (if (Fwd.addW F c).2.1 = 0 then (if (Fwd.addW F c).1 = 1 then some (Fwd.addW F c).2.2 else none) else none)
def hrunW (F : Fwd.Fw) : List (Bool × List Int) → Bool
  | [] => true
  | (d, c) :: t => match hstepW F d c with
    | none => false
    | some F' => hrunW F' t
def sameB (a b : List Int) : Bool := a.all fm && (b.all fm && decide (tidyL a = tidyL b))
def lastB (fl : List Int) (s : Bool × List Int) : Bool := !s.1 && sameB s.2 (negL fl)
def holdsW (v : Int) (cs : List (List Int)) (fl : List Int) (l : List (Bool × List Int)) : Bool :=
  if formedB v cs = true then (if fl.all fm = true then (if l.length = 0 then false else (if hrunW (Fwd.newW cs) l = true then lastB fl (l.getD (l.length - 1) (false, [])) else false)) else false) else false
noncomputable def hstepR (A : List (List Int)) (o : Bool) (d : Bool) (c : List Int) : Option (List (List Int) × Bool) :=
  if d = true then (if (rDrop A o c).2.1 = 0 then (if (rDrop A o c).1 = 0 then none else some ((rDrop A o c).2.2, o)) else none)
  else (if (rAdd A o c).2.1 = 0 then (if (rAdd A o c).1 = 1 then some ((rAdd A o c).2.2.1, (rAdd A o c).2.2.2) else none) else none)
noncomputable def hrunR (A : List (List Int)) (o : Bool) : List (Bool × List Int) → Bool
  | [] => true
  | (d, c) :: t => match hstepR A o d c with
    | none => false
    | some (A', o') => hrunR A' o' t

theorem step_same {F : Fwd.Fw} {A : List (List Int)} (h : Rel F A) (d : Bool) (c : List Int) :
    (hstepW F d c = none ∧ hstepR A false d c = none) ∨ ∃ F' A' o', hstepW F d c = some F' ∧ hstepR A false d c = some (A', o') ∧ ((o' = false ∧ Rel F' A') ∨ (o' = true ∧ F'.done = true)) := by
  have hre : Fwd.refusesR F c = if c.all fm = true then 0 else 1 := by
    unfold Fwd.refusesR
    split
    · rw [if_neg (by rw [h.o]; decide)]
    · rfl
  cases hs : c.all fm with
  | false =>
    rw [hs] at hre
    rw [if_neg (by decide)] at hre
    left
    unfold hstepW hstepR
    cases d with
    | true =>
      have e1 : (Fwd.dropW F c).2.1 = 1 := by unfold Fwd.dropW; rw [if_neg (by rw [hre]; decide), hre]
      have e2 : (rDrop A false c).2.1 = 1 := by unfold rDrop; rw [if_neg (by rw [hs]; decide)]
      rw [if_pos rfl, if_neg (by rw [e1]; decide), if_pos rfl, if_neg (by rw [e2]; decide)]
      exact ⟨rfl, rfl⟩
    | false =>
      have e1 : (Fwd.addW F c).2.1 = 1 := by unfold Fwd.addW; rw [if_neg (by rw [hre]; decide), hre]
      have e2 : (rAdd A false c).2.1 = 1 := by unfold rAdd; rw [if_neg (by rw [hs]; decide)]
      rw [if_neg (show ¬ (false = true) by decide), if_neg (by rw [e1]; decide), if_neg (show ¬ (false = true) by decide), if_neg (by rw [e2]; decide)]
      exact ⟨rfl, rfl⟩
  | true =>
    rw [hs] at hre
    rw [if_pos rfl] at hre
    have hc := List.all_eq_true.1 hs
    obtain ⟨t1, t2⟩ := h.take d c
    cases d with
    | true =>
      have eD2 : (Fwd.dropW F c).2.1 = 0 := by unfold Fwd.dropW; rw [if_pos hre]; split; rfl; split <;> rfl
      have eR2 : (rDrop A false c).2.1 = 0 := by unfold rDrop; rw [if_pos hs, if_neg (by decide)]; split; rfl; split <;> rfl
      have eT : rTake A true c = if (rDrop A false c).1 = 0 then (3, (rDrop A false c).2.2) else (0, (rDrop A false c).2.2) := by unfold rTake; rw [if_pos hs, if_pos rfl]
      have eW : Fwd.takeW F true c = if (Fwd.dropW F c).1 = 0 then (3, (Fwd.dropW F c).2.2) else (0, (Fwd.dropW F c).2.2) := by unfold Fwd.takeW; rw [if_pos rfl, if_neg (by rw [eD2]; decide)]
      rw [eT, eW] at t1 t2
      unfold hstepW hstepR
      rw [if_pos rfl, if_pos eD2, if_pos rfl, if_pos eR2]
      by_cases h0 : (rDrop A false c).1 = 0
      · rw [if_pos h0] at t1 ⊢
        by_cases h1 : (Fwd.dropW F c).1 = 0
        · rw [if_pos h1]; exact .inl ⟨rfl, rfl⟩
        · rw [if_neg h1] at t1; exact absurd (show (0 : Int) = 3 from t1) (by decide)
      · rw [if_neg h0] at t1 t2 ⊢
        by_cases h1 : (Fwd.dropW F c).1 = 0
        · rw [if_pos h1] at t1; exact absurd (show (3 : Int) = 0 from t1) (by decide)
        · rw [if_neg h1] at t2 ⊢
          exact .inr ⟨_, _, _, rfl, rfl, .inl ⟨rfl, t2 rfl⟩⟩
    | false =>
      have hk := h.kind hs
      have hkf : (Fwd.kindF F.vars F.all c).1 = (kindA 1048576 A c).1 := by unfold Fwd.kindF; rw [h.formed, hs, if_pos (show (true && true) = true from rfl)]; exact hk
      have eA : Fwd.addW F c = if (Fwd.kindF F.vars F.all c).1 = 0 then (0, 0, F) else ((Fwd.kindF F.vars F.all c).1, 0, { Fwd.putW F c with done := decide (c.length = 0) }) := by unfold Fwd.addW; rw [if_pos hre]
      have eR : rAdd A false c = if (kindA 1048576 A c).1 = 0 then (0, 0, A, false) else ((kindA 1048576 A c).1, 0, A ++ [c], decide (c.length = 0)) := by unfold rAdd; rw [if_pos hs, if_neg (by decide)]
      rw [hkf] at eA
      unfold hstepW hstepR
      rw [if_neg (show ¬ (false = true) by decide), if_neg (show ¬ (false = true) by decide), eA, eR]
      by_cases h0 : (kindA 1048576 A c).1 = 0
      · rw [if_pos h0, if_pos h0]
        exact .inl ⟨rfl, rfl⟩
      · rw [if_neg h0, if_neg h0]
        dsimp only
        rw [if_pos rfl, if_pos rfl]
        by_cases h1 : (kindA 1048576 A c).1 = 1
        · rw [if_pos h1, if_pos h1]
          refine .inr ⟨_, _, _, rfl, rfl, ?_⟩
          cases hz : decide (c.length = 0) with
          | true => exact .inr ⟨rfl, rfl⟩
          | false =>
            have hp := h.put hc
            exact .inl ⟨rfl, hp.p, hp.a, hp.f, hp.v, hp.w, rfl⟩
        · rw [if_neg h1, if_neg h1]
          exact .inl ⟨rfl, rfl⟩
theorem step_over (F : Fwd.Fw) (A : List (List Int)) (hF : F.done = true) (d : Bool) (c : List Int) : hstepW F d c = none ∧ hstepR A true d c = none := by
  have hre : Fwd.refusesR F c ≠ 0 := by
    unfold Fwd.refusesR
    split
    · first | decide | (rw [if_pos hF]; decide)
    · decide
  unfold hstepW hstepR
  cases d with
  | true =>
    have e1 : (Fwd.dropW F c).2.1 ≠ 0 := by unfold Fwd.dropW; rw [if_neg hre]; exact hre
    have e2 : (rDrop A true c).2.1 ≠ 0 := by
      unfold rDrop
      split
      · rw [if_pos rfl]; show (3 : Int) ≠ 0; decide
      · show (1 : Int) ≠ 0; decide
    rw [if_pos rfl, if_neg e1, if_pos rfl, if_neg e2]
    exact ⟨rfl, rfl⟩
  | false =>
    have e1 : (Fwd.addW F c).2.1 ≠ 0 := by unfold Fwd.addW; rw [if_neg hre]; exact hre
    have e2 : (rAdd A true c).2.1 ≠ 0 := by
      unfold rAdd
      split
      · rw [if_pos rfl]; show (3 : Int) ≠ 0; decide
      · show (1 : Int) ≠ 0; decide
    rw [if_neg (show ¬ (false = true) by decide), if_neg e1, if_neg (show ¬ (false = true) by decide), if_neg e2]
    exact ⟨rfl, rfl⟩
theorem run_over (F : Fwd.Fw) (A : List (List Int)) (hF : F.done = true) : ∀ l, hrunW F l = hrunR A true l
  | [] => rfl
  | (d, c) :: t => by
    obtain ⟨h1, h2⟩ := step_over F A hF d c
    rw [hrunW, hrunR, h1, h2]
theorem run_same : ∀ (l : List (Bool × List Int)) (F : Fwd.Fw) (A : List (List Int)), Rel F A → hrunW F l = hrunR A false l
  | [], F, A, h => rfl
  | (d, c) :: t, F, A, h => by
    rw [hrunW, hrunR]
    rcases step_same h d c with ⟨h1, h2⟩ | ⟨F', A', o', h1, h2, h3⟩
    · rw [h1, h2]
    · rw [h1, h2]
      dsimp only
      rcases h3 with ⟨rfl, h3⟩ | ⟨rfl, h3⟩
      · exact run_same t F' A' h3
      · exact run_over F' A' h3 t

end Go.Proofs.YtjhmkhbmjopmkaaGreatDoor.Uh
