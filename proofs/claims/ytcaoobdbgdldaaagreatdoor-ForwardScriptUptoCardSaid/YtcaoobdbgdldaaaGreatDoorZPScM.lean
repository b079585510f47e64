/- Part of the proof of ForwardScript: what the law uses of the text ScM. -/
import Derived.Test.YtcaoobdbgdldaaaGreatDoorZPClN
namespace Go.Proofs.YtcaoobdbgdldaaaGreatDoor.Sc
open Go.RowKit Go.Proofs.YtcaoobdbgdldaaaGreatDoor.Lit Go.Proofs.YtcaoobdbgdldaaaGreatDoor.Spr Go.Proofs.YtcaoobdbgdldaaaGreatDoor.Fwd Go.Proofs.YtcaoobdbgdldaaaGreatDoor.Cl
set_option linter.unusedVariables false
set_option linter.unusedSimpArgs false

theorem cmp_eq : ∀ (a b : List Int), (∀ x ∈ a, fm x = true) → (∀ x ∈ b, fm x = true) → cmpL a b = 0 → a = b
  | [], [], _, _, _ => rfl
  | [], _ :: _, _, _, h => by simp [cmpL] at h
  | _ :: _, [], _, _, h => by simp [cmpL] at h
  | x :: a, y :: b, ha, hb, h => by
    unfold cmpL at h
    by_cases e : ix x - ix y = 0
    · rw [if_pos e] at h
      rw [ix_inj (ha x (by simp)) (hb y (by simp)) (by omega), cmp_eq a b (fun z hz => ha z (by simp [hz])) (fun z hz => hb z (by simp [hz])) h]
    · rw [if_neg e] at h; omega
theorem cmp_le_trans {a b c : List Int} (h : cmpL a b ≤ 0) (k : cmpL b c ≤ 0) : cmpL a c ≤ 0 := by
  obtain ⟨t1, t2, t3, t4⟩ := cmpL_trans a b c
  have h' : cmpL a b < 0 ∨ cmpL a b = 0 := by omega
  have k' : cmpL b c < 0 ∨ cmpL b c = 0 := by omega
  rcases h' with h | h <;> rcases k' with k | k
  · have := t1 h k; omega
  · have := t3 h k; omega
  · have := t4 h k; omega
  · have := t2 h k; omega
theorem cmp_total {a b : List Int} (h : ¬ cmpL a b < 0) : cmpL b a ≤ 0 := by
  have := cmpL_anti a b
  rcases Int.lt_trichotomy (cmpL a b) 0 with e | e | e
  · exact absurd e h
  · have := this.2.1 e; omega
  · have := (cmpL_anti b a).1.2 e; omega
def Ord (l : List (List Int)) : Prop := l.Pairwise fun a b => cmpL a b ≤ 0
theorem ord_unique : ∀ (a b : List (List Int)), Ord a → Ord b → a.Perm b → (∀ c ∈ a, ∀ x ∈ c, fm x = true) → a = b
  | [], b, _, _, h, _ => (List.nil_perm.1 h).symm
  | x :: a, [], _, _, h, _ => absurd h.symm (by intro k; have := List.nil_perm.1 k; cases this)
  | x :: a, y :: b, ha, hb, h, hf => by
    have hfb : ∀ c ∈ y :: b, ∀ z ∈ c, fm z = true := fun c hc => hf c (h.mem_iff.2 hc)
    have exy : x = y := by
      have h1 : x ∈ y :: b := h.mem_iff.1 (by simp)
      have h2 : y ∈ x :: a := h.mem_iff.2 (by simp)
      rcases List.mem_cons.1 h1 with e | e
      · exact e
      · rcases List.mem_cons.1 h2 with e2 | e2
        · exact e2.symm
        · have k1 := (List.pairwise_cons.1 hb).1 x e
          have k2 := (List.pairwise_cons.1 ha).1 y e2
          have k3 : cmpL x y = 0 := by
            have := cmpL_anti x y
            rcases Int.lt_trichotomy (cmpL y x) 0 with q | q | q
            · have := (cmpL_anti y x).1.1 q; omega
            · exact this.2.2 q
            · omega
          exact cmp_eq x y (hf x (by simp)) (hfb y (by simp)) k3
    subst exy
    rw [ord_unique a b (List.pairwise_cons.1 ha).2 (List.pairwise_cons.1 hb).2 (List.perm_cons x |>.1 h) (fun c hc => hf c (by simp [hc]))]
theorem ord_of_idx {l : List (List Int)} (h : ∀ i j, i < j → j < l.length → cmpL l[i]! l[j]! ≤ 0) : Ord l := by
  rw [Ord, List.pairwise_iff_getElem]
  intro i j hi hj hij
  have := h i j hij hj
  rwa [getElem!_pos l i hi, getElem!_pos l j hj] at this
theorem ord_out {ds : List (List Int)} (ms : List (List Int)) (h : Ord ds) : Ord (outL ms ds ds.length) := by
  unfold outL
  rw [List.take_length]
  induction ds with
  | nil => exact List.Pairwise.nil
  | cons d t ih =>
    obtain ⟨h1, h2⟩ := List.pairwise_cons.1 h
    rw [List.flatMap_cons]
    refine List.pairwise_append.2 ⟨?_, ih h2, ?_⟩
    · rw [List.pairwise_replicate]
      exact .inr (by rw [cmpL_self]; exact Int.le_refl 0)
    · intro a ha b hb
      rw [(List.mem_replicate.1 ha).2]
      obtain ⟨e, he, hbe⟩ := List.mem_flatMap.1 hb
      rw [(List.mem_replicate.1 hbe).2]
      exact h1 e he

def sw (xs : List (List Int)) (j : Nat) : List (List Int) := (xs.set (j + 1) (xs.getD j [])).set j (xs.getD (j + 1) [])
def bub : Nat → List (List Int) → List (List Int)
  | 0, xs => xs
  | j + 1, xs => if cmpL (xs.getD (j + 1) []) (xs.getD j []) < 0 then bub j (sw xs j) else xs
theorem sw_len (xs : List (List Int)) (j : Nat) : (sw xs j).length = xs.length := by simp [sw]
theorem bub_len : ∀ (j : Nat) (xs : List (List Int)), (bub j xs).length = xs.length
  | 0, _ => rfl
  | j + 1, xs => by
    unfold bub
    split
    · rw [bub_len, sw_len]
    · rfl
theorem getD_at (P T : List (List Int)) (c : List Int) : (P ++ c :: T).getD P.length [] = c := by
  rw [List.getD_eq_getElem?_getD, List.getElem?_append_right (Nat.le_refl _), Nat.sub_self]; rfl
theorem sw_at (P T : List (List Int)) (p c : List Int) : sw (P ++ p :: c :: T) P.length = P ++ c :: p :: T := by
  unfold sw
  have h1 : (P ++ p :: c :: T).getD P.length [] = p := getD_at P (c :: T) p
  have h2 : (P ++ p :: c :: T).getD (P.length + 1) [] = c := by
    have := getD_at (P ++ [p]) T c
    rw [List.append_assoc, List.length_append] at this
    exact this
  rw [h1, h2]
  rw [List.set_append_right _ _ (by omega), show P.length + 1 - P.length = 1 by omega, List.set_append_right _ _ (Nat.le_refl _), Nat.sub_self]
  rfl
theorem bub_ord : ∀ (n : Nat) (P T : List (List Int)) (c : List Int), P.length = n → Ord (P ++ T) → (∀ t ∈ T, cmpL c t ≤ 0) → Ord (bub n (P ++ c :: T)) ∧ (bub n (P ++ c :: T)).Perm (P ++ c :: T)
  | 0, P, T, c, hn, ho, ht => by
    obtain rfl := List.length_eq_zero_iff.1 hn
    exact ⟨List.pairwise_cons.2 ⟨ht, ho⟩, List.Perm.refl _⟩
  | n + 1, P, T, c, hn, ho, ht => by
    obtain ⟨Q, p, rfl⟩ : ∃ Q p, P = Q ++ [p] := by
      rcases List.eq_nil_or_concat P with rfl | ⟨Q, p, rfl⟩
      · simp at hn
      · exact ⟨Q, p, by simp⟩
    have hq : Q.length = n := by simpa using hn
    subst hq
    have e : Q ++ [p] ++ c :: T = Q ++ p :: c :: T := by simp
    have h1 : (Q ++ p :: c :: T).getD Q.length [] = p := getD_at Q (c :: T) p
    have h2 : (Q ++ p :: c :: T).getD (Q.length + 1) [] = c := by
      have := getD_at (Q ++ [p]) T c
      rw [e, List.length_append] at this
      exact this
    rw [e]
    unfold bub
    rw [h1, h2]
    have e2 : Q ++ [p] ++ T = Q ++ p :: T := by simp
    rw [e2] at ho
    by_cases h : cmpL c p < 0
    · rw [if_pos h, sw_at]
      obtain ⟨k1, k2⟩ := bub_ord Q.length Q (p :: T) c rfl ho (fun t h3 => by
        rcases List.mem_cons.1 h3 with rfl | h3
        · omega
        · exact ht t h3)
      exact ⟨k1, k2.trans (List.Perm.append_left Q (List.Perm.swap p c T))⟩
    · rw [if_neg h]
      refine ⟨?_, List.Perm.refl _⟩
      obtain ⟨a1, a2, a3⟩ := List.pairwise_append.1 ho
      obtain ⟨b1, b2⟩ := List.pairwise_cons.1 a2
      have hpc : cmpL p c ≤ 0 := cmp_total h
      refine List.pairwise_append.2 ⟨a1, List.pairwise_cons.2 ⟨fun t h3 => ?_, List.pairwise_cons.2 ⟨ht, b2⟩⟩, fun q hq t h3 => ?_⟩
      · rcases List.mem_cons.1 h3 with rfl | h3
        · exact hpc
        · exact b1 t h3
      · have hqp : cmpL q p ≤ 0 := a3 q hq p (by simp)
        rcases List.mem_cons.1 h3 with rfl | h3
        · exact hqp
        · rcases List.mem_cons.1 h3 with rfl | h3
          · exact cmp_le_trans hqp hpc
          · exact a3 q hq t (by simp [h3])
def rOut (A : List (List Int)) : Nat → List (List Int)
  | 0 => []
  | k + 1 => bub k (rOut A k ++ [tidyL (A.getD k [])])
theorem rOut_len (A : List (List Int)) : ∀ k, (rOut A k).length = k
  | 0 => rfl
  | k + 1 => by unfold rOut; rw [bub_len, List.length_append, rOut_len A k]; rfl
theorem rOut_ord (A : List (List Int)) : ∀ k, k ≤ A.length → Ord (rOut A k) ∧ (rOut A k).Perm ((A.take k).map tidyL)
  | 0, _ => by simp [rOut, Ord]
  | k + 1, hk => by
    obtain ⟨h1, h2⟩ := rOut_ord A k (by omega)
    have hl := rOut_len A k
    unfold rOut
    have := bub_ord k (rOut A k) [] (tidyL (A.getD k [])) hl (by simpa using h1) (by simp)
    refine ⟨this.1, this.2.trans ?_⟩
    have e : A.take (k + 1) = A.take k ++ [A.getD k []] := by
      rw [List.take_add_one, List.getElem?_eq_getElem (by omega), List.getD_eq_getElem?_getD, List.getElem?_eq_getElem (by omega)]
      rfl
    rw [e, List.map_append]
    exact h2.append_right _
theorem rOut_mem (A : List (List Int)) : ∀ k, k ≤ A.length → ∀ c ∈ rOut A k, ∃ a ∈ A, c = tidyL a := fun k hk c hc => by
  obtain ⟨a, ha, rfl⟩ := List.mem_map.1 ((rOut_ord A k hk).2.mem_iff.1 hc)
  exact ⟨a, List.mem_of_mem_take ha, rfl⟩
theorem clauses_same {F : Fw} {A ds : List (List Int)} (hp : F.ms.Perm (A.map tidyL)) (hn : ND F) (hd : ds.Perm F.all) (ho : ∀ i j, i < j → j < ds.length → cmpL ds[i]! ds[j]! ≤ 0) : outL F.ms ds ds.length = rOut A A.length := by
  obtain ⟨h1, h2⟩ := rOut_ord A A.length (Nat.le_refl _)
  rw [List.take_length] at h2
  have h3 : (outL F.ms ds ds.length).Perm (rOut A A.length) := (hn.out hd).trans (hp.trans h2.symm)
  refine ord_unique _ _ (ord_out F.ms (ord_of_idx ho)) h1 h3 (fun c hc x hx => ?_)
  obtain ⟨a, _, rfl⟩ := rOut_mem A A.length (Nat.le_refl _) c (h3.mem_iff.1 hc)
  exact tidy_fm a x hx
end Go.Proofs.YtcaoobdbgdldaaaGreatDoor.Sc
