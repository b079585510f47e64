/- Part of the proof of ForwardScript: what the law uses of the text ClN. -/
import Derived.Test.YtcaoobdbgdldaaaGreatDoorZPClC
import Derived.Test.YtcaoobdbgdldaaaGreatDoorZPFwP
import Derived.Test.YtcaoobdbgdldaaaGreatDoorZPSnd
namespace Go.Proofs.YtcaoobdbgdldaaaGreatDoor.Cl
open Go.RowKit Go.Proofs.YtcaoobdbgdldaaaGreatDoor.Lit Go.Proofs.YtcaoobdbgdldaaaGreatDoor.Spr Go.Proofs.YtcaoobdbgdldaaaGreatDoor.Fwd
set_option linter.unusedVariables false
set_option linter.unusedSimpArgs false

def ND (F : Fw) : Prop := F.all.Nodup ∧ ∀ t, t ∈ F.all ↔ t ∈ F.ms
theorem ND.put {F : Fw} (h : ND F) (c : List Int) : ND (putW F c) := by
  obtain ⟨h1, h2⟩ := h
  unfold putW ND
  dsimp only
  split
  · rename_i h0
    have hn : tidyL c ∉ F.all := fun h => by
      have := List.count_pos_iff.2 ((h2 _).1 h)
      omega
    refine ⟨List.nodup_append.2 ⟨h1, by simp, fun a ha b hb e => hn ?_⟩, fun t => ?_⟩
    · rw [List.mem_singleton] at hb
      rw [← hb, ← e]; exact ha
    · rw [List.mem_append, List.mem_append, h2 t]
  · rename_i h0
    refine ⟨h1, fun t => ?_⟩
    rw [List.mem_append, h2 t, List.mem_singleton]
    constructor
    · exact .inl
    · rintro (h | h)
      · exact h
      · rw [h]; exact List.count_pos_iff.1 (by omega)
theorem ND.new (cs : List (List Int)) : ND (newW cs) := by
  unfold newW
  have : ∀ (cs : List (List Int)) (F : Fw), ND F → ND (cs.foldl putW F) := by
    intro cs
    induction cs with
    | nil => exact fun F h => h
    | cons c t ih => exact fun F h => ih _ (h.put c)
  exact this cs _ ⟨by simp, fun t => by simp⟩
theorem ND.add {F : Fw} (h : ND F) (c : List Int) : ND (addW F c).2.2 := by
  unfold addW
  split
  · split
    · exact h
    · exact (h.put c)
  · exact h
theorem ND.drop {F : Fw} (h : ND F) (c : List Int) : ND (dropW F c).2.2 := by
  unfold dropW
  split
  · split
    · exact h
    · split
      · exact h
      · rename_i h0 _
        obtain ⟨h1, h2⟩ := h
        unfold goneW ND
        dsimp only
        split
        · rename_i hc
          refine ⟨h1.filter _, fun t => ?_⟩
          rw [List.mem_filter, h2 t]
          by_cases e : t = tidyL c
          · subst e
            have : tidyL c ∉ F.ms.erase (tidyL c) := fun h => by
              have := List.count_pos_iff.2 h
              rw [List.count_erase_self] at this
              omega
            simp [this]
          · rw [List.mem_erase_of_ne e]
            have : ¬ tidyL c = t := fun h => e h.symm
            simp [this]
        · rename_i hc
          refine ⟨h1, fun t => ?_⟩
          rw [h2 t]
          by_cases e : t = tidyL c
          · subst e
            constructor
            · intro _
              refine List.count_pos_iff.1 ?_
              rw [List.count_erase_self]
              omega
            · exact List.mem_of_mem_erase
          · rw [List.mem_erase_of_ne e]
  · exact h
theorem sum_counts (ms : List (List Int)) (a : List Int) : ∀ ds : List (List Int), ds.Nodup → (ds.map fun c => (List.replicate (ms.count c) c).count a).sum = if a ∈ ds then ms.count a else 0
  | [], _ => by simp
  | d :: t, h => by
    have h' := List.nodup_cons.1 h
    rw [List.map_cons, List.sum_cons, sum_counts ms a t h'.2, List.count_replicate]
    by_cases e : d = a
    · subst e
      rw [if_neg h'.1, if_pos List.mem_cons_self]
      simp
    · have e2 : ¬ a = d := fun h => e h.symm
      simp [e, e2]
theorem outL_perm {ms ds : List (List Int)} (hn : ds.Nodup) (hm : ∀ t ∈ ms, t ∈ ds) : (outL ms ds ds.length).Perm ms := by
  rw [List.perm_iff_count]
  intro a
  unfold outL
  rw [List.take_length, List.count_flatMap]
  have := sum_counts ms a ds hn
  rw [show (List.map (List.count a ∘ fun c => List.replicate (List.count c ms) c) ds) = ds.map fun c => (List.replicate (ms.count c) c).count a from rfl, this]
  split
  · rfl
  · rename_i h
    exact (List.count_eq_zero.2 fun h2 => h (hm a h2)).symm
theorem outL_le (ms ds : List (List Int)) (k : Nat) : (outL ms ds k).length ≤ (outL ms ds ds.length).length := by
  have e : outL ms ds ds.length = outL ms ds k ++ (ds.drop k).flatMap fun c => List.replicate (ms.count c) c := by
    unfold outL
    rw [List.take_length, ← List.flatMap_append, List.take_append_drop]
  rw [e, List.length_append]
  omega
theorem ND.out {F : Fw} (h : ND F) {ds : List (List Int)} (hp : ds.Perm F.all) : (outL F.ms ds ds.length).Perm F.ms :=
  outL_perm (hp.nodup_iff.2 h.1) fun t ht => hp.mem_iff.2 ((h.2 t).2 ht)

theorem new_doneF (cs : List (List Int)) : (newW cs).done = false := by
  unfold newW
  have : ∀ (l : List (List Int)) (F : Fw), F.done = false → (l.foldl putW F).done = false := by
    intro l
    induction l with
    | nil => exact fun F h => h
    | cons c t ih => exact fun F h => ih _ h
  exact this cs _ rfl
theorem formed_mem {v : Int} {cs : List (List Int)} (h : formedB v cs = true) : ∀ c ∈ cs, ∀ x ∈ c, fm x = true ∧ x ≠ 0 ∧ -v ≤ x ∧ x ≤ v := fun c hc x hx => by
  unfold formedB at h
  simp only [Bool.and_eq_true, decide_eq_true_eq] at h
  have h := List.all_eq_true.1 h.2 c hc
  unfold withinB at h
  rw [Bool.and_eq_true] at h
  have h1 := List.all_eq_true.1 h.1 x hx
  have h2 := of_decide_eq_true (List.all_eq_true.1 h.2 x hx)
  have h3 := fm_true h1
  unfold lv at h2
  rw [if_pos h1] at h2
  refine ⟨h1, h3.1, ?_⟩
  split at h2 <;> omega
end Go.Proofs.YtcaoobdbgdldaaaGreatDoor.Cl
