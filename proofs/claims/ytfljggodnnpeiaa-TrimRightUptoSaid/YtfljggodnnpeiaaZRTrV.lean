/- Part of the proof of TrimRight: what the law uses of the text TrV. -/
import Derived.Test.YtfljggodnnpeiaaZRTrR
namespace Go.Proofs.Ytfljggodnnpeiaa.Trm
open Go.RowKit Go.Proofs.Ytfljggodnnpeiaa.Lit Go.Proofs.Ytfljggodnnpeiaa.Spr
set_option linter.unusedVariables false

theorem filter_lt {L : List Nat} (h : L.Pairwise (· < ·)) {j : Nat} (hj : j < L.length) : L.filter (fun n => decide (n < L[j])) = L.take j := by
  have e : L = L.take j ++ L[j] :: L.drop (j + 1) := by rw [← List.drop_eq_getElem_cons hj, List.take_append_drop]
  have h2 : (L.take j ++ L[j] :: L.drop (j + 1)).Pairwise (· < ·) := e ▸ h
  obtain ⟨_, p2, p3⟩ := List.pairwise_append.1 h2
  obtain ⟨q1, _⟩ := List.pairwise_cons.1 p2
  have f1 : (L.take j).filter (fun n => decide (n < L[j])) = L.take j := List.filter_eq_self.2 fun n hn => decide_eq_true (p3 n hn _ List.mem_cons_self)
  have f2 : (L[j] :: L.drop (j + 1)).filter (fun n => decide (n < L[j])) = [] := List.filter_eq_nil_iff.2 fun n hn => by
    rcases List.mem_cons.1 hn with rfl | hn
    · simp
    · have := q1 n hn; simp; omega
  calc L.filter (fun n => decide (n < L[j])) = (L.take j ++ L[j] :: L.drop (j + 1)).filter (fun n => decide (n < L[j])) := congrArg (List.filter fun n => decide (n < L[j])) e
    _ = L.take j := by rw [List.filter_append, f1, f2, List.append_nil]
theorem filter_ne {L : List Nat} (h : L.Pairwise (· < ·)) {i : Nat} (hi : i < L.length) : L.filter (fun n => decide (n ≠ L[i])) = L.eraseIdx i := by
  have e : L = L.take i ++ L[i] :: L.drop (i + 1) := by rw [← List.drop_eq_getElem_cons hi, List.take_append_drop]
  have h2 : (L.take i ++ L[i] :: L.drop (i + 1)).Pairwise (· < ·) := e ▸ h
  obtain ⟨_, p2, p3⟩ := List.pairwise_append.1 h2
  obtain ⟨q1, _⟩ := List.pairwise_cons.1 p2
  have f1 : (L.take i).filter (fun n => decide (n ≠ L[i])) = L.take i := List.filter_eq_self.2 fun n hn => decide_eq_true (by have := p3 n hn _ (List.mem_cons_self); omega)
  have f2 : (L[i] :: L.drop (i + 1)).filter (fun n => decide (n ≠ L[i])) = L.drop (i + 1) := by
    rw [List.filter_cons_of_neg (by simp)]
    exact List.filter_eq_self.2 fun n hn => decide_eq_true (by have := q1 n hn; omega)
  calc L.filter (fun n => decide (n ≠ L[i])) = (L.take i ++ L[i] :: L.drop (i + 1)).filter (fun n => decide (n ≠ L[i])) := congrArg (List.filter fun n => decide (n ≠ L[i])) e
    _ = L.eraseIdx i := by rw [List.filter_append, f1, f2, List.eraseIdx_eq_take_drop_succ]
def ks (inn : List Bool) (N : Nat) : List Nat := (List.range N).filter fun n => inn.getD n false
def ks1 (inn : List Bool) (g N : Nat) : List Nat := (ks inn N).filter fun n => decide (n < g)
def ks2 (inn : List Bool) (g N : Nat) : List Nat := (ks inn N).filter fun n => !decide (n < g)
theorem ks_sorted (inn : List Bool) (N : Nat) : (ks inn N).Pairwise (· < ·) := List.pairwise_lt_range.filter _
theorem ks1_sorted (inn : List Bool) (g N : Nat) : (ks1 inn g N).Pairwise (· < ·) := (ks_sorted inn N).filter _
theorem ks2_sorted (inn : List Bool) (g N : Nat) : (ks2 inn g N).Pairwise (· < ·) := (ks_sorted inn N).filter _
theorem mem_ks {inn : List Bool} {N n : Nat} : n ∈ ks inn N ↔ n < N ∧ inn.getD n false = true := by simp [ks]
theorem mem_ks1 {inn : List Bool} {g N n : Nat} : n ∈ ks1 inn g N ↔ n < N ∧ inn.getD n false = true ∧ n < g := by simp [ks1, mem_ks, and_assoc]
theorem mem_ks2 {inn : List Bool} {g N n : Nat} : n ∈ ks2 inn g N ↔ n < N ∧ inn.getD n false = true ∧ g ≤ n := by simp [ks2, mem_ks, and_assoc]
theorem split_at {g : Nat} : ∀ {L : List Nat}, L.Pairwise (· < ·) → L = L.filter (fun n => decide (n < g)) ++ L.filter (fun n => !decide (n < g))
  | [], _ => rfl
  | x :: t, h => by
    obtain ⟨h1, h2⟩ := List.pairwise_cons.1 h
    have ih := split_at (g := g) h2
    by_cases hx : x < g
    · rw [List.filter_cons_of_pos (by simpa using hx), List.filter_cons_of_neg (by simpa using hx), List.cons_append, ← ih]
    · have e1 : t.filter (fun n => decide (n < g)) = [] := List.filter_eq_nil_iff.2 fun n hn => by have := h1 n hn; simp; omega
      have e2 : t.filter (fun n => !decide (n < g)) = t := List.filter_eq_self.2 fun n hn => by have := h1 n hn; simp; omega
      rw [List.filter_cons_of_neg (by simpa using hx), List.filter_cons_of_pos (by simpa using hx), e1, e2]; rfl
theorem ks_split (inn : List Bool) (g N : Nat) : ks inn N = ks1 inn g N ++ ks2 inn g N := split_at (ks_sorted inn N)
theorem keptN_ks (inn : List Bool) {a N : Nat} (h : a ≤ N) : keptN inn a = ((ks inn N).filter fun n => decide (n < a)).map fun (n : Nat) => (n : Int) := by
  unfold keptN ks
  congr 1
  rw [List.filter_filter]
  have e : (List.range N).filter (fun n => decide (n < a)) = List.range a := by
    have : List.range N = List.range a ++ (List.range (N - a)).map (a + ·) := by rw [← List.range_add]; congr 1; omega
    rw [this, List.filter_append, List.filter_eq_self.2 (fun n hn => by simpa using hn), List.filter_eq_nil_iff.2 (fun n hn => by obtain ⟨m, _, rfl⟩ := List.mem_map.1 hn; simp), List.append_nil]
  rw [← e, List.filter_filter]
  congr 1
  funext n
  exact Bool.and_comm _ _
def atL (all : List (List Int)) (L : List Nat) : List (List Int) := L.map fun n => all.getD n []
theorem keptC_ks (all : List (List Int)) (inn : List Bool) {a N : Nat} (h : a ≤ N) : keptC all inn a = atL all ((ks inn N).filter fun n => decide (n < a)) := by
  unfold keptC atL
  rw [keptN_ks inn h, List.map_map]
  exact List.map_congr_left fun n _ => by simp
theorem proofL_ks (K : KSt) (N : Nat) : proofL K N = atL K.all (ks2 K.inn K.given N) := by
  unfold proofL atL ks2 ks
  rw [List.filter_filter]
  congr 1
  congr 1
  funext n
  exact Bool.and_comm _ _
theorem coreL_ks (K : KSt) (N : Nat) : coreL K N = (ks1 K.inn K.given N).map fun (n : Nat) => (n : Int) := by
  unfold coreL ks1 ks
  rw [List.filter_filter]
  congr 1
  congr 1
  funext n
  exact Bool.and_comm _ _
theorem kept_at (all : List (List Int)) (inn : List Bool) (g N : Nat) {j : Nat} (hj : j < (ks2 inn g N).length) : keptC all inn (ks2 inn g N)[j] = atL all (ks1 inn g N) ++ (atL all (ks2 inn g N)).take j := by
  obtain ⟨m1, m2, m3⟩ := mem_ks2.1 (List.getElem_mem hj)
  rw [keptC_ks all inn (Nat.le_of_lt m1), ks_split inn g N, List.filter_append, filter_lt (ks2_sorted inn g N) hj]
  have e : (ks1 inn g N).filter (fun n => decide (n < (ks2 inn g N)[j])) = ks1 inn g N := List.filter_eq_self.2 fun n hn => decide_eq_true (by have := (mem_ks1.1 hn).2.2; omega)
  rw [e]
  unfold atL
  rw [List.map_append, List.map_take]
theorem ks_set {inn : List Bool} {x N : Nat} (hx : x < inn.length) : ks (inn.set x false) N = (ks inn N).filter fun n => decide (n ≠ x) := by
  unfold ks
  rw [List.filter_filter]
  congr 1
  funext n
  rw [set_getD _ _ _ _ _ hx]
  by_cases e : n = x
  · rw [if_pos e]; simp [e]
  · rw [if_neg e]; simp [e]
theorem atL_erase (all : List (List Int)) (L : List Nat) (i : Nat) : atL all (L.eraseIdx i) = (atL all L).eraseIdx i := by
  unfold atL
  rw [List.eraseIdx_eq_take_drop_succ, List.eraseIdx_eq_take_drop_succ, List.map_append, List.map_take, List.map_drop]
theorem kept_but2 (all : List (List Int)) {inn : List Bool} (g N : Nat) {i j : Nat} (hij : i < j) (hj : j < (ks2 inn g N).length) (hx : (ks2 inn g N)[i] < inn.length) : keptC all (inn.set (ks2 inn g N)[i] false) (ks2 inn g N)[j] = atL all (ks1 inn g N) ++ ((atL all (ks2 inn g N)).eraseIdx i).take (j - 1) := by
  obtain ⟨m1, m2, m3⟩ := mem_ks2.1 (List.getElem_mem hj)
  obtain ⟨n1, n2, n3⟩ := mem_ks2.1 (List.getElem_mem (show i < (ks2 inn g N).length by omega))
  have hL : ((ks2 inn g N).eraseIdx i).Pairwise (· < ·) := (ks2_sorted inn g N).sublist (List.eraseIdx_sublist _ _)
  have hlen : j - 1 < ((ks2 inn g N).eraseIdx i).length := by rw [List.length_eraseIdx, if_pos (by omega)]; omega
  have hat : ((ks2 inn g N).eraseIdx i)[j - 1] = (ks2 inn g N)[j] := by
    rw [List.getElem_eraseIdx, dif_neg (by omega)]
    congr 1
    omega
  rw [keptC_ks all _ (Nat.le_of_lt m1), ks_set hx, ks_split inn g N, List.filter_append, List.filter_append, filter_ne (ks2_sorted inn g N) (by omega)]
  have e1 : (ks1 inn g N).filter (fun n => decide (n ≠ (ks2 inn g N)[i])) = ks1 inn g N := List.filter_eq_self.2 fun n hn => decide_eq_true (by have := (mem_ks1.1 hn).2.2; omega)
  have e2 : (ks1 inn g N).filter (fun n => decide (n < (ks2 inn g N)[j])) = ks1 inn g N := List.filter_eq_self.2 fun n hn => decide_eq_true (by have := (mem_ks1.1 hn).2.2; omega)
  have e3 := filter_lt hL hlen
  rw [hat] at e3
  rw [e1, e2, e3, ← atL_erase]
  unfold atL
  rw [List.map_append, List.map_take]
theorem kept_but1 (all : List (List Int)) {inn : List Bool} (g N : Nat) {i j : Nat} (hi : i < (ks1 inn g N).length) (hj : j < (ks2 inn g N).length) (hx : (ks1 inn g N)[i] < inn.length) : keptC all (inn.set (ks1 inn g N)[i] false) (ks2 inn g N)[j] = (atL all (ks1 inn g N)).eraseIdx i ++ (atL all (ks2 inn g N)).take j := by
  obtain ⟨m1, m2, m3⟩ := mem_ks2.1 (List.getElem_mem hj)
  obtain ⟨n1, n2, n3⟩ := mem_ks1.1 (List.getElem_mem hi)
  rw [keptC_ks all _ (Nat.le_of_lt m1), ks_set hx, ks_split inn g N, List.filter_append, List.filter_append, filter_ne (ks1_sorted inn g N) hi]
  have e1 : (ks2 inn g N).filter (fun n => decide (n ≠ (ks1 inn g N)[i])) = ks2 inn g N := List.filter_eq_self.2 fun n hn => decide_eq_true (by have := (mem_ks2.1 hn).2.2; omega)
  have e2 : ((ks1 inn g N).eraseIdx i).filter (fun n => decide (n < (ks2 inn g N)[j])) = (ks1 inn g N).eraseIdx i := List.filter_eq_self.2 fun n hn => decide_eq_true (by have := (mem_ks1.1 (List.mem_of_mem_eraseIdx hn)).2.2; omega)
  rw [e1, e2, filter_lt (ks2_sorted inn g N) hj, ← atL_erase]
  unfold atL
  rw [List.map_append, List.map_take]
end Go.Proofs.Ytfljggodnnpeiaa.Trm
