/- Part of the proof of TrimRight: what the law uses of the text TrP. -/
import Derived.Test.YtfljggodnnpeiaaZRBlP
namespace Go.Proofs.Ytfljggodnnpeiaa.Trm
open Go.RowKit Go.Proofs.Ytfljggodnnpeiaa.Lit Go.Proofs.Ytfljggodnnpeiaa.Spr
set_option linter.unusedVariables false

def opps (c : List Int) : List Int := c.map fun l => -l
def keptN (inn : List Bool) (a : Nat) : List Int := ((List.range a).filter fun n => inn.getD n false).map fun (n : Nat) => (n : Int)
def keptC (all : List (List Int)) (inn : List Bool) (a : Nat) : List (List Int) := (keptN inn a).map fun n => all.getD n.toNat []
theorem keptN_succ (inn : List Bool) (a : Nat) : keptN inn (a + 1) = if inn.getD a false = true then keptN inn a ++ [(a : Int)] else keptN inn a := by
  unfold keptN
  rw [List.range_succ, List.filter_append, List.map_append]
  by_cases h : inn.getD a false = true
  · rw [if_pos h, show [a].filter (fun n => inn.getD n false) = [a] from List.filter_cons_of_pos h]; rfl
  · rw [if_neg h, show [a].filter (fun n => inn.getD n false) = [] from List.filter_cons_of_neg h]; simp
theorem keptC_succ (all : List (List Int)) (inn : List Bool) (a : Nat) : keptC all inn (a + 1) = if inn.getD a false = true then keptC all inn a ++ [all.getD a []] else keptC all inn a := by
  unfold keptC
  rw [keptN_succ]
  split
  · rw [List.map_append, List.map_singleton, Int.toNat_natCast]
  · rfl
theorem mem_keptN {inn : List Bool} {a : Nat} {n : Int} : n ∈ keptN inn a ↔ 0 ≤ n ∧ n.toNat < a ∧ inn.getD n.toNat false = true := by
  unfold keptN
  simp only [List.mem_map, List.mem_filter, List.mem_range]
  constructor
  · rintro ⟨m, ⟨h1, h2⟩, rfl⟩
    exact ⟨by omega, by omega, by simpa using h2⟩
  · rintro ⟨h1, h2, h3⟩
    exact ⟨n.toNat, ⟨h2, h3⟩, by omega⟩
theorem keptN_len (inn : List Bool) (a : Nat) : (keptN inn a).length ≤ a := by
  unfold keptN
  rw [List.length_map]
  have := List.length_filter_le (fun n => inn.getD n false) (List.range a)
  rwa [List.length_range] at this
theorem keptC_len (all : List (List Int)) (inn : List Bool) (a : Nat) : (keptC all inn a).length = (keptN inn a).length := by unfold keptC; rw [List.length_map]

def folS (all : List (List Int)) (inn : List Bool) (a : Nat) : St × Bool := putsF (newF (keptC all inn a) (keptC all inn a).length) (opps (all.getD a []))
def folR (all : List (List Int)) (inn : List Bool) (a : Nat) : List Int × Bool :=
  if (folS all inn a).2 = true then (if (ranSt (folS all inn a).1).bad = -1 then ([], false) else ((blameL (ranSt (folS all inn a).1)).map fun n => (keptN inn a).getD n.toNat 0, true)) else ([], true)

theorem opps_fm {c : List Int} (h : ∀ l ∈ c, fm l = true) : ∀ l ∈ opps c, fm l = true := fun l hl => by
  obtain ⟨x, hx, rfl⟩ := List.mem_map.1 hl
  exact fm_neg (h x hx)
theorem getD_fm {all : List (List Int)} (h : ∀ c ∈ all, ∀ l ∈ c, fm l = true) (n : Nat) : ∀ l ∈ all.getD n [], fm l = true := by
  by_cases hn : n < all.length
  · exact h _ (getD_mem hn)
  · rw [List.getD_eq_getElem?_getD, List.getElem?_eq_none (by omega)]; simp
theorem keptC_fm {all : List (List Int)} (h : ∀ c ∈ all, ∀ l ∈ c, fm l = true) (inn : List Bool) (a : Nat) : ∀ c ∈ keptC all inn a, ∀ l ∈ c, fm l = true := fun c hc => by
  obtain ⟨n, _, rfl⟩ := List.mem_map.1 hc
  exact getD_fm h _

theorem puts_twice {cls : List (List Int)} {F : List Int} : ∀ (G : List Int) (S : St), Inv cls F S → (∀ x ∈ S.trail, x ∈ F) → (∀ l ∈ G, fm l = true ∧ l ∈ F) → (putsF S G).2 = false → ∃ l, l ∈ F ∧ -l ∈ F
  | [], S, _, _, _, h => by cases h
  | l :: t, S, hI, hT, hG, h => by
    obtain ⟨hf, hl⟩ := hG l (by simp)
    unfold putsF at h
    by_cases hp : putOk S l = true
    · rw [if_pos hp] at h
      refine puts_twice t _ (hI.put l (-1) hf (.fact hl)) (fun x hx => ?_) (fun x hx => hG x (by simp [hx])) h
      rw [put_trail hI.good.ok] at hx
      split at hx
      · rcases List.mem_append.1 hx with hx | hx
        · exact hT x hx
        · rw [List.mem_singleton] at hx; rw [hx]; exact hl
      · exact hT x hx
    · have hv : ¬ (vl (placeSt S l) l ≠ -1) := of_decide_eq_false (Bool.eq_false_iff.2 hp)
      rw [vl_place hI.good.ok] at hv
      exact ⟨l, hl, hT _ ((hI.tneg hf).2 (by omega))⟩

theorem fol_clash {all : List (List Int)} (h : ∀ c ∈ all, ∀ l ∈ c, fm l = true) (inn : List Bool) (a : Nat) : (folR all inn a).2 = true ↔ Clash (keptC all inn a) (opps (all.getD a [])) := by
  obtain ⟨c1, c2⟩ := closed_up (keptC all inn a) (opps (all.getD a [])) (opps_fm (getD_fm h a)) (keptC_fm h inn a)
  have e : (folR all inn a).2 = !(closedSt (keptC all inn a) (opps (all.getD a []))).2 := by
    unfold folR closedSt folS
    by_cases hp : (putsF (newF (keptC all inn a) (keptC all inn a).length) (opps (all.getD a []))).2 = true
    · rw [if_pos hp, if_pos hp]
      by_cases hb : (ranSt (putsF (newF (keptC all inn a) (keptC all inn a).length) (opps (all.getD a []))).1).bad = -1
      · rw [if_pos hb]; show false = !(decide _); rw [decide_eq_true hb]; rfl
      · rw [if_neg hb]; show true = !(decide _); rw [decide_eq_false hb]; rfl
    · rw [if_neg hp, if_neg hp, Bool.eq_false_iff.2 hp]; rfl
  rw [e]
  cases hx : (closedSt (keptC all inn a) (opps (all.getD a []))).2 with
  | true => exact ⟨fun h => by simp at h, fun h2 => absurd h2 (c1 hx).2.2.2.2⟩
  | false => exact ⟨fun _ => c2 hx, fun _ => rfl⟩
theorem tidy_getD (cs : List (List Int)) (n : Nat) : (cs.map tidyL).getD n [] = tidyL (cs.getD n []) := by
  rw [List.getD_eq_getElem?_getD, List.getD_eq_getElem?_getD, List.getElem?_map]
  cases cs[n]? with
  | none => rfl
  | some c => rfl
theorem keptC_getD (all : List (List Int)) (inn : List Bool) (a n : Nat) (hn : n < (keptN inn a).length) : (keptC all inn a).getD n [] = all.getD ((keptN inn a).getD n 0).toNat [] := by
  unfold keptC
  rw [List.getD_eq_getElem?_getD, List.getElem?_map, List.getD_eq_getElem?_getD (l := keptN inn a), List.getElem?_eq_getElem hn]; rfl
theorem fol_lean {all : List (List Int)} (h : ∀ c ∈ all, ∀ l ∈ c, fm l = true) (inn : List Bool) (a : Nat) (hf : (folR all inn a).2 = true) :
    (∀ n ∈ (folR all inn a).1, n ∈ keptN inn a) ∧ Clash ((folR all inn a).1.map fun n => all.getD n.toNat []) (opps (all.getD a [])) := by
  have hF := opps_fm (getD_fm h a)
  have hC := keptC_fm h inn a
  unfold folR at hf ⊢
  by_cases hp : (folS all inn a).2 = true
  · rw [if_pos hp] at hf ⊢
    by_cases hb : (ranSt (folS all inn a).1).bad = -1
    · rw [if_pos hb] at hf; cases hf
    · rw [if_neg hb]
      obtain ⟨r1, r2⟩ := ran_wy (keptC all inn a) (opps (all.getD a [])) hF hp
      obtain ⟨b1, b2⟩ := blame_clash r1.inv r2 hb
      rw [List.length_map] at b1
      refine ⟨fun n hn => ?_, b2.mono (fun c hc => ?_) (fun _ hl => hl)⟩
      · obtain ⟨m, hm, rfl⟩ := List.mem_map.1 hn
        have := b1 m hm
        rw [keptC_len] at this
        exact getD_mem' (by omega)
      · obtain ⟨m, hm, rfl⟩ := List.mem_map.1 hc
        have h1 := b1 m hm
        rw [keptC_len] at h1
        refine ⟨all.getD ((keptN inn a).getD m.toNat 0).toNat [], ?_, fun x => ?_⟩
        · exact List.mem_map_of_mem (f := fun n : Int => all.getD n.toNat []) (List.mem_map_of_mem (f := fun n : Int => (keptN inn a).getD n.toNat 0) hm)
        · rw [tidy_getD, keptC_getD all inn a _ (by omega), mem_tidy]
          exact ⟨fun h => h.1, fun hx => ⟨hx, getD_fm h _ x hx⟩⟩
  · rw [if_neg hp]
    refine ⟨by simp, .inl ?_⟩
    have hp2 : (folS all inn a).2 = false := by simpa using hp
    have hB := newF_built (keptC all inn a) (keptC all inn a).length (Nat.le_refl _)
    rw [List.take_length] at hB
    obtain ⟨i0, c0⟩ := hB.inv (opps (all.getD a []))
    obtain ⟨l, h1, h2⟩ : ∃ l, l ∈ opps (all.getD a []) ∧ -l ∈ opps (all.getD a []) := puts_twice _ _ i0 (by rw [hB.tr]; simp) (fun l hl => ⟨hF l hl, hl⟩) hp2
    exact ⟨l, .fact h1, .fact h2⟩

end Go.Proofs.Ytfljggodnnpeiaa.Trm
