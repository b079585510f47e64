/- Part of the proof of ForwardLasts: what the law uses of the text FwL. -/
import Derived.Test.YtcaoobdbgdldaaaGreatDoorZPFwP
namespace Go.Proofs.YtcaoobdbgdldaaaGreatDoor.Fwd
open Go.RowKit Go.Shelf Go.Maps Go.Proofs.YtcaoobdbgdldaaaGreatDoor.Lit Go.Proofs.YtcaoobdbgdldaaaGreatDoor.Spr
set_option linter.unusedVariables false
set_option linter.unusedSimpArgs false

def SC (w : World) (A : Option Addr) (l : List (Bool × List Int)) : Prop := ∀ k, k < l.length → ∃ ad A1 c1, A = some ad ∧ w.cell? (ad.add (k * 2)) = some (.bool (l.getD k (false, [])).1) ∧ w.cell? ⟨(ad.add (k * 2)).block, (ad.add (k * 2)).off + 1, none⟩ = some (.slice A1 (l.getD k (false, [])).2.length c1) ∧ IC w A1 (l.getD k (false, [])).2
theorem SC.below {w w1 : World} {A : Option Addr} {l : List (Bool × List Int)} (h : SC w A l) (hb : Below w.heap.size w w1) : SC w1 A l := fun k hk => by
  obtain ⟨ad, A1, c1, e, h1, h2, h3⟩ := h k hk
  exact ⟨ad, A1, c1, e, (hb.cell (World.block_lt_of_cell? w _ h1)).trans h1, (hb.cell (World.block_lt_of_cell? w _ h2)).trans h2, h3.below hb⟩

def AM (F : Fw) : Prop := ∀ t ∈ F.ms, t ∈ F.all
theorem AM.put {F : Fw} (h : AM F) (c : List Int) : AM (putW F c) := by
  intro t ht
  unfold putW at ht ⊢
  dsimp only at ht ⊢
  rcases List.mem_append.1 ht with e | e
  · have := h t e
    split
    · exact List.mem_append_left _ this
    · exact this
  · rw [List.mem_singleton] at e
    subst e
    split
    · exact List.mem_append_right _ (List.mem_singleton_self _)
    · rename_i hc
      exact h _ (List.count_pos_iff.1 (by omega))
theorem AM.new (cs : List (List Int)) : AM (newW cs) := by
  unfold newW
  have : ∀ (cs : List (List Int)) (F : Fw), AM F → AM (cs.foldl putW F) := by
    intro cs
    induction cs with
    | nil => exact fun F h => h
    | cons c t ih => exact fun F h => ih _ (h.put c)
  exact this cs _ (fun t ht => by cases ht)
theorem AM.add {F : Fw} (h : AM F) (c : List Int) : AM (addW F c).2.2 := by
  unfold addW
  split
  · split
    · exact h
    · exact (h.put c)
  · exact h
theorem AM.drop {F : Fw} (h : AM F) (c : List Int) : AM (dropW F c).2.2 := by
  unfold dropW
  split
  · split
    · exact h
    · split
      · exact h
      · intro t ht
        unfold goneW at ht ⊢
        dsimp only at ht ⊢
        have h1 := h t (List.mem_of_mem_erase ht)
        split
        · rename_i hc
          refine List.mem_filter.2 ⟨h1, ?_⟩
          have : t ≠ tidyL c := by
            rintro rfl
            have := List.count_pos_iff.2 ht
            rw [List.count_erase_self] at this
            omega
          simpa using fun e => this e.symm
        · exact h1
  · exact h
theorem takeW_eq (F : Fw) (d : Bool) (c : List Int) : (takeW F d c).2 = if d = true then (dropW F c).2.2 else (addW F c).2.2 := by
  unfold takeW
  cases d with
  | true =>
    simp only [↓reduceIte]
    split
    · rfl
    · split <;> rfl
  | false =>
    simp only [Bool.false_eq_true, ↓reduceIte]
    split
    · rfl
    · split
      · rfl
      · split <;> rfl
theorem AM.take {F : Fw} (h : AM F) (d : Bool) (c : List Int) : AM (takeW F d c).2 := by
  rw [takeW_eq]
  split
  · exact h.drop c
  · exact h.add c

def runW (F : Fw) (l : List (Bool × List Int)) : Fw := l.foldl (fun F s => (takeW F s.1 s.2).2) F
theorem runW_snoc (F : Fw) (l : List (Bool × List Int)) (s : Bool × List Int) : runW F (l ++ [s]) = (takeW (runW F l) s.1 s.2).2 := by unfold runW; rw [List.foldl_append]; rfl
theorem runW_cons (F : Fw) (l : List (Bool × List Int)) (s : Bool × List Int) : runW F (s :: l) = runW (takeW F s.1 s.2).2 l := rfl
theorem AM.run {F : Fw} (h : AM F) : ∀ (l : List (Bool × List Int)), AM (runW F l) := by
  intro l
  unfold runW
  induction l generalizing F with
  | nil => exact h
  | cons s t ih => exact ih (h.take s.1 s.2)
theorem steps_on (F : Fw) (i : Nat) (l : List (Bool × List Int)) (h : ∀ j, j < l.length → (takeW (runW F (l.take j)) (l.getD j (false, [])).1 (l.getD j (false, [])).2).1 = 0) : stepsW F i l = (4, ((i + l.length : Nat) : Int)) := by
  induction l generalizing F i with
  | nil => rfl
  | cons s t ih =>
    obtain ⟨d, c⟩ := s
    have h0 := h 0 (by simp)
    simp only [List.take_zero, List.getD_cons_zero] at h0
    unfold stepsW
    rw [if_neg (by rw [show runW F [] = F from rfl] at h0; simpa using h0), ih _ _ (fun j hj => by simpa [runW_cons] using h (j + 1) (by simpa using hj)), List.length_cons, Nat.add_right_comm, Nat.add_assoc]
theorem steps_stop (F : Fw) (i : Nat) (l : List (Bool × List Int)) (k : Nat) (hk : k < l.length) (h : ∀ j, j < k → (takeW (runW F (l.take j)) (l.getD j (false, [])).1 (l.getD j (false, [])).2).1 = 0) (hs : (takeW (runW F (l.take k)) (l.getD k (false, [])).1 (l.getD k (false, [])).2).1 ≠ 0) :
    stepsW F i l = ((takeW (runW F (l.take k)) (l.getD k (false, [])).1 (l.getD k (false, [])).2).1, ((i + k : Nat) : Int)) := by
  induction l generalizing F i k with
  | nil => simp at hk
  | cons s t ih =>
    obtain ⟨d, c⟩ := s
    cases k with
    | zero =>
      simp only [List.take_zero, List.getD_cons_zero] at hs ⊢
      rw [show runW F [] = F from rfl] at hs ⊢
      unfold stepsW
      rw [if_pos hs]; rfl
    | succ k =>
      have h0 := h 0 (by omega)
      simp only [List.take_zero, List.getD_cons_zero] at h0
      unfold stepsW
      rw [if_neg (by rw [show runW F [] = F from rfl] at h0; simpa using h0), ih _ (i + 1) k (by simpa using hk) (fun j hj => by simpa [runW_cons] using h (j + 1) (by omega)) (by simpa [runW_cons] using hs)]
      simp only [List.take_succ_cons, List.getD_cons_succ]
      rw [show i + 1 + k = i + (k + 1) by omega]
      rfl

end Go.Proofs.YtcaoobdbgdldaaaGreatDoor.Fwd
