/- Part of the proof of UnitStory: what the law uses of the text PortsW. -/
import Derived.Test.YthbccfgcemdgeaaZuPorts
import Derived.Test.YthbccfgcemdgeaaZuWhyR
import Derived.Test.YthbccfgcemdgeaaZuWhy
namespace Go.Proofs.Ythbccfgcemdgeaa
open Go.RowKit Go.Maps Go.Proofs.YthbccfgcemdgeaaW.PrintWords
set_option linter.unusedVariables false

def mk51 (L : List (Int × Int)) : List Q.S51 := L.map fun p => ⟨p.1, p.2⟩
theorem reps51 (w : World) (L : List (Int × Int)) : Reps (Q.k51.K w) 2 (mk51 L) (Spr.cellsP L) := by
  have h : ∀ m, m ≤ L.length → Reps (Q.k51.K w) 2 (mk51 (L.take m)) (Spr.cellsP (L.take m)) := by
    intro m
    induction m with
    | zero => exact fun _ => Reps.none _ _
    | succ m ih =>
      intro hm
      have h1 := ih (by omega)
      have e : L.take (m + 1) = L.take m ++ [((L[m]'(by omega)).1, (L[m]'(by omega)).2)] := by rw [List.take_succ_eq_append_getElem (show m < L.length by omega)]
      rw [e, Spr.cellsP_snoc]
      have e2 : mk51 (L.take m ++ [((L[m]'(by omega)).1, (L[m]'(by omega)).2)]) = mk51 (L.take m) ++ [⟨(L[m]'(by omega)).1, (L[m]'(by omega)).2⟩] := by unfold mk51; rw [List.map_append]; rfl
      rw [e2]
      exact h1.snoc (Q.k51_mk w _) rfl
  have := h L.length (Nat.le_refl _)
  rwa [List.take_length] at this
theorem rc51 {w : World} {base : Nat} {A : Option Addr} {c c' : Nat} {L : List (Int × Int)} (h : w.ownsRow base 51 2 (.slice A L.length c) L.length (Spr.cellsP L)) (hc : L.length ≤ c') : Q.RC Q.k51 51 w base (fun _ => True) (.slice A L.length c') (mk51 L) := by
  have hl : (mk51 L).length = L.length := List.length_map _
  obtain ⟨A', c1, h1, h2⟩ := own_reads_row h (reps51 w L) hl
  injection h1 with e1 e2 e3
  subst e1 e3
  refine ⟨A, c', by rw [hl], by omega, by rw [hl]; exact h2, fun a ha => ?_⟩
  subst ha
  rcases h.2 with ⟨h3, _⟩ | ⟨g, cap, cur, h3, hg, hh, _⟩
  · cases h3
  · injection h3 with e4 e5 e6
    injection e4 with e4
    subst e4
    exact ⟨hg, cur, hh⟩

def unit_Why.f (v : Int) (cs : List (List Int)) (F : List Int) : Option (List Q.S51 × Int × Int) :=
  if Spr.Fits cs F then some (mk51 (Spr.whyR v cs F).1, (Spr.whyR v cs F).2.1, (Spr.whyR v cs F).2.2) else none
theorem unit_Why.calls (a0_0 : Int) (A0_1 : Option Addr) (c0_1 : Nat) (l0_1 : List (List Int)) (A1 : Option Addr) (c1 : Nat) (l1 : List Int) (r1 : List Q.S51) (r2 : Int) (r3 : Int) (w : World)
    (hr0_1 : Kd.C (Kd.slice 3 (Kd.int .i64)) w A0_1 l0_1.length l0_1) (hc0_1 : l0_1.length ≤ c0_1) (hr1 : Kd.C (Kd.int .i64) w A1 l1.length l1) (hc1 : l1.length ≤ c1) (h : unit_Why.f a0_0 l0_1 l1 = some (r1, r2, r3)) :
    Calls Try.prog 33 #[.agg #[.int .i64 a0_0, .slice A0_1 l0_1.length c0_1], .slice A1 l1.length c1] w fun e w' => ∃ v0_, e = .returned (.tuple #[v0_, .int .i64 r2, .int .i64 r3]) ∧ Q.RC Q.k51 51 w' w.heap.size (fun _ => True) v0_ r1 ∧ Below w.heap.size w w' := by
  unfold unit_Why.f at h
  split at h
  · rename_i hS
    have hR := Option.some.inj h
    simp only [Prod.mk.injEq] at hR
    obtain ⟨rfl, rfl, rfl⟩ := hR
    refine (Spr.why_any a0_0 A0_1 c0_1 l0_1 A1 c1 l1 w (rc_of_C hr0_1) (ic_of_C hr1) hS).mono fun e w' hp => ?_
    obtain ⟨A, c, c', h1, rfl, h2, h3⟩ := hp
    exact ⟨_, rfl, rc51 h2 h1, h3⟩
  · cases h

end Go.Proofs.Ythbccfgcemdgeaa
