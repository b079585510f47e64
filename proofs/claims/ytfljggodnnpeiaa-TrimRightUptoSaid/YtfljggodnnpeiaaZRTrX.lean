/- Part of the proof of TrimRight: what the law uses of the text TrX. -/
import Derived.Test.YtfljggodnnpeiaaZRTrW
namespace Go.Proofs.Ytfljggodnnpeiaa.Rf
open Go.RowKit Go.Proofs.Ytfljggodnnpeiaa.P Go.Proofs.Ytfljggodnnpeiaa.Lit Go.Proofs.Ytfljggodnnpeiaa.Spr Go.Proofs.Ytfljggodnnpeiaa.Trm Go.Proofs.YtfljggodnnpeiaaW.PrintWords Go.Proofs.YtfljggodnnpeiaaW.PrintLast
set_option linter.unusedVariables false
set_option linter.unusedSimpArgs false
open Classical

theorem addT_steps (cs : List (List Int)) : addT (stepsL cs) = cs := by
  unfold addT stepsL
  rw [List.filter_eq_self.2 (fun s hs => by obtain ⟨c, _, rfl⟩ := List.mem_map.1 hs; rfl), List.map_map]
  exact List.map_id _
theorem steps_addT (l : List S79) : stepsL (addT l) = l.filter fun s => !s.f0 := by
  unfold addT stepsL
  rw [List.map_map]
  have : ∀ s ∈ l.filter (fun s => !s.f0), ((fun c => (⟨false, c⟩ : S79)) ∘ fun s => s.f1) s = id s := fun s hs => by
    have := (List.mem_filter.1 hs).2
    obtain ⟨f0, f1⟩ := s
    cases f0
    · rfl
    · cases this
  rw [List.map_congr_left this, List.map_id]
theorem rest_range {g N : Nat} (h : g ≤ N) : (List.range N).filter (fun n => !decide (n < g)) = (List.range (N - g)).map (g + ·) := by
  have e : List.range N = List.range g ++ (List.range (N - g)).map (g + ·) := by rw [← List.range_add]; congr 1; omega
  rw [e, List.filter_append, List.filter_eq_nil_iff.2 (fun n hn => by have := List.mem_range.1 hn; simpa using this), List.nil_append]
  exact List.filter_eq_self.2 fun n hn => by obtain ⟨m, _, rfl⟩ := List.mem_map.1 hn; simp
theorem proof_sub (cs added : List (List Int)) (inn : List Bool) : (atL (cs ++ added) (ks2 inn cs.length (cs ++ added).length)).Sublist added := by
  have h1 : (ks2 inn cs.length (cs ++ added).length).Sublist ((List.range (cs ++ added).length).filter fun n => !decide (n < cs.length)) := List.Sublist.filter _ List.filter_sublist
  rw [rest_range (by rw [List.length_append]; omega)] at h1
  have h2 : atL (cs ++ added) ((List.range ((cs ++ added).length - cs.length)).map (cs.length + ·)) = added := by
    unfold atL
    rw [List.map_map]
    refine List.ext_getElem (by simp) fun i hi1 hi2 => ?_
    simp only [List.getElem_map, List.getElem_range, Function.comp]
    rw [List.getD_eq_getElem?_getD, List.getElem?_append_right (by omega), show cs.length + i - cs.length = i by omega, List.getElem?_eq_getElem hi2]; rfl
  have h3 := h1.map fun n => (cs ++ added).getD n []
  unfold atL at h2 ⊢
  rwa [h2] at h3
theorem core_rising (K : KSt) (N : Nat) : RisingL (coreL K N) (K.given : Int) := by
  rw [coreL_ks]
  refine ⟨fun x hx => ?_, ?_⟩
  · obtain ⟨n, hn, rfl⟩ := List.mem_map.1 hx
    have := (mem_ks1.1 hn).2.2
    omega
  · rw [List.pairwise_map]
    exact (ks1_sorted K.inn K.given N).imp fun h => by omega
theorem pick_core {K : KSt} {cs added : List (List Int)} (ha : K.all = cs ++ added) (hg : K.given = cs.length) (N : Nat) : pick cs (coreL K N) = atL K.all (ks1 K.inn K.given N) := by
  rw [coreL_ks]
  unfold pick atL
  rw [List.map_map]
  refine List.map_congr_left fun n hn => ?_
  have := (mem_ks1.1 hn).2.2
  show cs.getD ((n : Int)).toNat [] = _
  rw [Int.toNat_natCast, ha, List.getD_eq_getElem?_getD, List.getD_eq_getElem?_getD, List.getElem?_append_left (by omega)]

theorem few_fine {cs : List (List Int)} (h : Few cs) (hf : ∀ c ∈ cs, ∀ x ∈ c, fm x = true) : Fine cs := ⟨hf, fun c hc => by have := h.2 c hc; omega⟩
theorem ok_no (v : Int) (cs : List (List Int)) (l : List S79) (e : Int) (h1 : Few cs) (h2 : Few (l.map (·.f1)))
    (h : ((formedB v cs && l.all fun s => s.f1.all fm) = false ∧ e = 1) ∨ ((formedB v cs && l.all fun s => s.f1.all fm) = true ∧ goodV cs l = false ∧ e = 120)) : Ev (fun k => depotref12_OkTrim.f k v cs l [] [] e) true := by
  have hl : l.length ≤ 2097152 := by have := h2.1; simpa using this
  have h8 : ∀ s ∈ l, s.f1.length ≤ 4194304 := fun s hs => by have := h2.2 _ (List.mem_map_of_mem hs); omega
  have hr : ∀ c ∈ cs, c.length ≤ 4194304 := fun c hc => by have := h1.2 c hc; omega
  have hsh := shaped12 v cs l (by have := h1.1; omega) hr (by omega) h8
  unfold depotref12_OkTrim.f
  refine Ev.congr (fun k => if_pos (by rfl)) ?_
  rcases h with ⟨h, rfl⟩ | ⟨h, hg, rfl⟩
  · rw [h] at hsh
    refine Ev.step (fun k => ?_) (Ev.bind hsh (f := fun k t => if t = true then none else some true) (by simpa using Ev.now (α := Bool) true))
    simp only [depotref12_OkTrim.j0]
    obtain ⟨K, hK⟩ := hsh
    cases hs : depotref12_shaped.f k v cs l with
    | none => rfl
    | some t =>
      have : t = false := by
        have hm := at_rounds (fun k => depotref12_shaped.mono v cs l k) (Nat.le_max_left k K) hs
        have := hK (max k K) (Nat.le_max_right _ _)
        change depotref12_shaped.f (max k K) v cs l = some false at this
        exact Option.some.inj (hm.symm.trans this)
      subst this
      rfl
  · rw [h] at hsh
    have hfs : ∀ s ∈ l, ∀ x ∈ s.f1, fm x = true := fun s hs => List.all_eq_true.1 (List.all_eq_true.1 ((Bool.and_eq_true _ _ ▸ h).2) s hs)
    have hfc := Trm.formed_lits' ((Bool.and_eq_true _ _ ▸ h).1)
    have hgo := good12 v cs l (few_fine h1 hfc) (by have := h1.1; omega) (by omega) hfs h8
    rw [hg] at hgo
    refine Ev.step (fun k => ?_) (Ev.bind hsh (f := fun k t => if t = true then some true else (if (120 : Int) = 1 then some true else some false)) (by simpa using Ev.now (α := Bool) true))
    simp only [depotref12_OkTrim.j0, hgo, Option.bind_some]
    rfl
end Go.Proofs.Ytfljggodnnpeiaa.Rf
