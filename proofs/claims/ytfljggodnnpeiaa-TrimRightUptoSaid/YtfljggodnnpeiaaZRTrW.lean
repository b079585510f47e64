/- Part of the proof of TrimRight: what the law uses of the text TrW. -/
import Derived.Test.YtfljggodnnpeiaaZRTrU
import Derived.Test.YtfljggodnnpeiaaZRTrV
import Derived.Test.YtfljggodnnpeiaaZRRefT
import Derived.Test.YtfljggodnnpeiaaZRJP17
namespace Go.Proofs.Ytfljggodnnpeiaa.Rf
open Go.RowKit Go.Proofs.Ytfljggodnnpeiaa.P Go.Proofs.Ytfljggodnnpeiaa.Lit Go.Proofs.Ytfljggodnnpeiaa.Spr Go.Proofs.Ytfljggodnnpeiaa.Trm Go.Proofs.YtfljggodnnpeiaaW.PrintWords Go.Proofs.YtfljggodnnpeiaaW.PrintLast
set_option linter.unusedVariables false
set_option linter.unusedSimpArgs false
open Classical

theorem adds_empty : ∀ l : List S79, addsL (pairs l) = (emptyAt (addT l)).map fun i => (addT l).take (i + 1)
  | [] => rfl
  | s :: t => by
    have ih := adds_empty t
    show addsL ((s.f0, s.f1) :: pairs t) = _
    rw [addsL_cons]
    by_cases h : s.f0 = true
    · rw [if_pos h, ih, show addT (s :: t) = addT t by unfold addT; rw [List.filter_cons_of_neg (by rw [h]; decide)]]
    · have e : addT (s :: t) = s.f1 :: addT t := by unfold addT; rw [List.filter_cons_of_pos (by rw [Bool.eq_false_iff.2 h]; rfl)]; rfl
      rw [if_neg h, e]
      by_cases h0 : s.f1 = []
      · rw [if_pos h0, emptyAt, if_pos (by rw [h0]; rfl)]
        simp [h0]
      · rw [if_neg h0, emptyAt, if_neg (fun e => h0 (List.eq_nil_of_length_eq_zero e)), ih]
        cases emptyAt (addT t) with
        | none => rfl
        | some i => rfl
theorem adds_last : ∀ (l : List (Bool × List Int)) (r : List (List Int)), addsL l = some r → r.getD (r.length - 1) [] = []
  | [], r, h => by cases h
  | s :: t, r, h => by
    rw [addsL_cons] at h
    split at h
    · exact adds_last t r h
    · split at h
      · cases h; rfl
      · cases hr : addsL t with
        | none => rw [hr] at h; cases h
        | some q =>
          rw [hr] at h; cases h
          have h1 := adds_last t q hr
          have h2 := adds_pos t q hr
          show (s.2 :: q).getD ((s.2 :: q).length - 1) [] = []
          rw [show (s.2 :: q).length - 1 = (q.length - 1) + 1 by rw [List.length_cons]; omega]
          exact h1

theorem keptC_all (all : List (List Int)) {a : Nat} (h : a ≤ all.length) : keptC all (List.replicate all.length true) a = all.take a := by
  induction a with
  | zero => rfl
  | succ a ih =>
    rw [keptC_succ, if_pos (by rw [List.getD_eq_getElem?_getD, List.getElem?_replicate, if_pos (by omega)]; rfl), ih (by omega), take_snoc [] (by omega)]
theorem start_good {cs added : List (List Int)} (hp : 0 < added.length) (hl : added.getD (added.length - 1) [] = []) (ft : KFits (cs ++ added)) : (goodR (startK cs added)).isSome = true ↔ HoldsP cs added := by
  rw [good_iff (startK_ok hp ft)]
  have e : ∀ i, i < added.length → (keptC (cs ++ added) (List.replicate (cs ++ added).length true) (cs.length + i) = cs ++ added.take i ∧ (cs ++ added).getD (cs.length + i) [] = added.getD i []) := fun i hi => by
    refine ⟨?_, ?_⟩
    · rw [keptC_all _ (by rw [List.length_append]; omega), List.take_append, List.take_of_length_le (by omega), show cs.length + i - cs.length = i by omega]
    · rw [List.getD_eq_getElem?_getD, List.getElem?_append_right (by omega), show cs.length + i - cs.length = i by omega, ← List.getD_eq_getElem?_getD]
  constructor
  · intro h
    refine ⟨fun e => by rw [e] at hp; simp at hp, hl, fun i _ hi => ?_⟩
    have := h (cs.length + i) (by show cs.length ≤ _; omega) (by show _ < (cs ++ added).length; rw [List.length_append]; omega)
    obtain ⟨e1, e2⟩ := e i hi
    change Clash (keptC (cs ++ added) (List.replicate (cs ++ added).length true) (cs.length + i)) (opps ((cs ++ added).getD (cs.length + i) [])) at this
    rwa [e1, e2] at this
  · intro h a h1 h2
    change cs.length ≤ a at h1
    change a < (cs ++ added).length at h2
    rw [List.length_append] at h2
    obtain ⟨e1, e2⟩ := e (a - cs.length) (by omega)
    rw [show cs.length + (a - cs.length) = a by omega] at e1 e2
    show Clash (keptC (cs ++ added) (List.replicate (cs ++ added).length true) a) (opps ((cs ++ added).getD a []))
    rw [e1, e2]
    exact h.2.2 _ (Nat.zero_le _) (by omega)

theorem _root_.Go.Proofs.Ytfljggodnnpeiaa.Trm.formed_lits' {v : Int} {cs : List (List Int)} (h : formedB v cs = true) : ∀ c ∈ cs, ∀ x ∈ c, fm x = true := fun c hc x hx => by
  unfold formedB at h
  simp only [Bool.and_eq_true, List.all_eq_true] at h
  have := h.2 c hc
  unfold withinB at this
  simp only [Bool.and_eq_true, List.all_eq_true] at this
  exact this.1 x hx
theorem atL_getD (all : List (List Int)) {L : List Nat} {j : Nat} (h : j < L.length) : (atL all L).getD j [] = all.getD L[j] [] := by
  unfold atL
  rw [List.getD_eq_getElem?_getD, List.getElem?_map, List.getElem?_eq_getElem h]; rfl
theorem atL_len (all : List (List Int)) (L : List Nat) : (atL all L).length = L.length := List.length_map _
theorem atL_fine {all : List (List Int)} (h : Fine all) {L : List Nat} (hL : ∀ n ∈ L, n < all.length) : Fine (atL all L) := h.of fun c hc => by
  obtain ⟨n, hn, rfl⟩ := List.mem_map.1 hc
  exact get_mem [] (hL n hn)
structure End (K : KSt) : Prop where
  ok : KOk K
  sup : Sup K
  least : (passR K).2 = false
theorem end_last {K : KSt} (h : End K) : ∃ p, ks2 K.inn K.given K.all.length ≠ [] ∧ p + 1 = (ks2 K.inn K.given K.all.length).length ∧ ∀ hp : p < (ks2 K.inn K.given K.all.length).length, (ks2 K.inn K.given K.all.length)[p] = K.all.length - 1 := by
  have gv := h.ok.gv
  have hm : K.all.length - 1 ∈ ks2 K.inn K.given K.all.length := mem_ks2.2 ⟨by omega, h.sup.last, by omega⟩
  have hne : ks2 K.inn K.given K.all.length ≠ [] := List.ne_nil_of_mem hm
  have hpos := List.length_pos_iff.2 hne
  refine ⟨(ks2 K.inn K.given K.all.length).length - 1, hne, by omega, fun hp => ?_⟩
  obtain ⟨i, hi, e⟩ := List.getElem_of_mem hm
  by_cases he : i = (ks2 K.inn K.given K.all.length).length - 1
  · subst he; exact e
  · have h1 := List.pairwise_iff_getElem.1 (ks2_sorted K.inn K.given K.all.length) i ((ks2 K.inn K.given K.all.length).length - 1) hi hp (by omega)
    have h2 := (mem_ks2.1 (List.getElem_mem hp)).1
    omega
theorem end_holds {K : KSt} (h : End K) (hl : K.all.getD (K.all.length - 1) [] = []) : HoldsP (atL K.all (ks1 K.inn K.given K.all.length)) (atL K.all (ks2 K.inn K.given K.all.length)) := by
  obtain ⟨p, hne, hp, hlast⟩ := end_last h
  refine ⟨fun e => hne (List.map_eq_nil_iff.1 e), ?_, fun i _ hi => ?_⟩
  · rw [atL_len, ← hp, Nat.add_sub_cancel, atL_getD _ (by omega), hlast (by omega), hl]
  · rw [atL_len] at hi
    obtain ⟨m1, m2, m3⟩ := mem_ks2.1 (List.getElem_mem hi)
    have := h.sup.clash m3 m1 m2
    rw [kept_at K.all K.inn K.given K.all.length hi] at this
    rw [atL_getD _ hi]
    exact this
theorem find_at {K : KSt} {a : Nat} (h1 : K.given ≤ a) (h2 : a < K.all.length) (h3 : K.inn.getD a false = true) : ∃ j, ∃ hj : j < (ks2 K.inn K.given K.all.length).length, (ks2 K.inn K.given K.all.length)[j] = a := by
  obtain ⟨j, hj, e⟩ := List.getElem_of_mem (mem_ks2.2 ⟨h2, h3, h1⟩)
  exact ⟨j, hj, e⟩
theorem end_spare2 {K : KSt} (h : End K) {i : Nat} (hi : i + 1 < (atL K.all (ks2 K.inn K.given K.all.length)).length) : ¬ HoldsP (atL K.all (ks1 K.inn K.given K.all.length)) ((atL K.all (ks2 K.inn K.given K.all.length)).eraseIdx i) := by
  rw [atL_len] at hi
  obtain ⟨p, hne, hp, hlast⟩ := end_last h
  have hi0 : i < (ks2 K.inn K.given K.all.length).length := by omega
  obtain ⟨m1, m2, m3⟩ := mem_ks2.1 (List.getElem_mem hi0)
  have hlt := List.pairwise_iff_getElem.1 (ks2_sorted K.inn K.given K.all.length) i p hi0 (by omega) (by omega)
  rw [hlast (by omega)] at hlt
  obtain ⟨a, a1, a2, a3, a4, a5⟩ := no_spare h.ok h.least m1 (by omega) m2
  obtain ⟨j, hj, e⟩ := find_at a2 a3 a4
  have hij : i < j := by
    rcases Nat.lt_trichotomy i j with h | h | h
    · exact h
    · subst h; omega
    · have := List.pairwise_iff_getElem.1 (ks2_sorted K.inn K.given K.all.length) j i hj hi0 h; omega
  have hx : (ks2 K.inn K.given K.all.length)[i] < K.inn.length := by rw [h.ok.li]; exact m1
  intro hh
  apply a5
  subst e
  rw [kept_but2 K.all K.given K.all.length hij hj hx]
  have hlen : j - 1 < ((atL K.all (ks2 K.inn K.given K.all.length)).eraseIdx i).length := by rw [List.length_eraseIdx, atL_len, if_pos hi0]; omega
  have := hh.2.2 (j - 1) (Nat.zero_le _) hlen
  have e2 : ((atL K.all (ks2 K.inn K.given K.all.length)).eraseIdx i).getD (j - 1) [] = K.all.getD (ks2 K.inn K.given K.all.length)[j] [] := by
    rw [List.getD_eq_getElem?_getD, List.getElem?_eraseIdx, if_neg (by omega), show j - 1 + 1 = j by omega, ← List.getD_eq_getElem?_getD, atL_getD _ hj]
  rw [e2] at this
  exact this
theorem end_spare1 {K : KSt} (h : End K) {i : Nat} (hi : i < (atL K.all (ks1 K.inn K.given K.all.length)).length) : ¬ HoldsP ((atL K.all (ks1 K.inn K.given K.all.length)).eraseIdx i) (atL K.all (ks2 K.inn K.given K.all.length)) := by
  rw [atL_len] at hi
  have gv := h.ok.gv
  obtain ⟨m1, m2, m3⟩ := mem_ks1.1 (List.getElem_mem hi)
  obtain ⟨a, a1, a2, a3, a4, a5⟩ := no_spare h.ok h.least m1 (by omega) m2
  obtain ⟨j, hj, e⟩ := find_at a2 a3 a4
  have hx : (ks1 K.inn K.given K.all.length)[i] < K.inn.length := by rw [h.ok.li]; exact m1
  intro hh
  apply a5
  subst e
  rw [kept_but1 K.all K.given K.all.length hi hj hx]
  have := hh.2.2 j (Nat.zero_le _) (by rw [atL_len]; exact hj)
  rw [atL_getD _ hj] at this
  exact this
end Go.Proofs.Ytfljggodnnpeiaa.Rf
