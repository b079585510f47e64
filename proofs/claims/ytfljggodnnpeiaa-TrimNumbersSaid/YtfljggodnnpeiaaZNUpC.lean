/- Part of the proof of TrimNumbers: what the law uses of the text UpC. -/
import Derived.Test.YtfljggodnnpeiaaZNUpB
namespace Go.Proofs.Ytfljggodnnpeiaa.Spr
open Go.RowKit Go.Proofs.Ytfljggodnnpeiaa.Lit

theorem Inv.begin_ {cls : List (List Int)} {F : List Int} {S : St} (h : Inv cls F S) (hnd : ∀ c ∈ cls, c.Nodup) (hc : Cnt cls [] S) : ∀ k, k ≤ cls.length →
    Inv cls F (beginF S k) ∧ Cnt cls [] (beginF S k) ∧ (∀ x ∈ S.trail, x ∈ (beginF S k).trail) ∧ ((beginF S k).bad = -1 → ∀ n, n < k → Looked [] (beginF S k).trail (cls.getD n [])) ∧ (beginF S k).done = S.done
  | 0, _ => ⟨h, hc, fun _ hx => hx, fun _ n hn => absurd hn (by omega), rfl⟩
  | k + 1, hk => by
    obtain ⟨h1, h2, h3, h4, h5⟩ := h.begin_ hnd hc k (by omega)
    rw [beginF_succ]
    obtain ⟨g1, g2, g3, g4⟩ := h1.look hnd h2 (by simp) k (by omega)
    refine ⟨g1, g2, fun x hx => g3 x (h3 x hx), fun hb n hn => ?_, (lookSt_fields _ _).2.2.2.trans h5⟩
    obtain ⟨b1, b2⟩ := g4 hb
    by_cases e : n = k
    · rw [e]; exact b2
    · exact (h4 b1 n (by omega)).mono g3

theorem fold_up : ∀ (ns : List Int) (S : St), ns.Nodup → (∀ n ∈ ns, 0 ≤ n ∧ n < S.on.length) →
    (∀ m : Nat, (ns.foldl upOn S).on.getD m 0 = if (m : Int) ∈ ns then wrap64 (S.on.getD m 0 + 1) else S.on.getD m 0) ∧ (ns.foldl upOn S).opn = S.opn ∧ (ns.foldl upOn S).clauses = S.clauses ∧ (ns.foldl upOn S).ids = S.ids ∧ (ns.foldl upOn S).inn = S.inn ∧ (ns.foldl upOn S).trail = S.trail ∧ (ns.foldl upOn S).done = S.done ∧ (ns.foldl upOn S).bad = S.bad ∧ (ns.foldl upOn S).value = S.value
  | [], S, _, _ => ⟨fun m => by simp, rfl, rfl, rfl, rfl, rfl, rfl, rfl, rfl⟩
  | n :: t, S, hn, hr => by
    obtain ⟨h1, h2⟩ := List.nodup_cons.1 hn
    have hn0 := hr n (by simp)
    obtain ⟨g1, g2⟩ := fold_up t (upOn S n) h2 (fun x hx => by have := hr x (by simp [hx]); simpa [upOn] using this)
    refine ⟨fun m => ?_, g2⟩
    rw [List.foldl_cons, g1 m]
    have hg : (upOn S n).on.getD m 0 = if (m : Int) = n then wrap64 (S.on.getD m 0 + 1) else S.on.getD m 0 := by
      unfold upOn
      dsimp only
      by_cases e : (m : Int) = n
      · have em : n.toNat = m := by omega
        rw [if_pos e, em, List.getD_eq_getElem?_getD, List.getElem?_set_self (by omega)]; rfl
      · have em : n.toNat ≠ m := by omega
        rw [if_neg e, List.getD_eq_getElem?_getD, List.getElem?_set_ne em, ← List.getD_eq_getElem?_getD]
    rw [hg]
    by_cases e : (m : Int) = n
    · have : ¬ (m : Int) ∈ t := by rw [e]; exact h1
      rw [if_neg this, if_pos e, if_pos (by simp [e])]
    · rw [if_neg e]
      by_cases hm : (m : Int) ∈ t
      · rw [if_pos hm, if_pos (by simp [hm])]
      · rw [if_neg hm, if_neg (by simp [hm, e])]
theorem fold_down : ∀ (ns : List Int) (S : St), ns.Nodup → (∀ n ∈ ns, 0 ≤ n ∧ n < S.opn.length) →
    (∀ m : Nat, (ns.foldl downOpn S).opn.getD m 0 = if (m : Int) ∈ ns then wrap64 (S.opn.getD m 0 - 1) else S.opn.getD m 0) ∧ (ns.foldl downOpn S).on = S.on ∧ (ns.foldl downOpn S).clauses = S.clauses ∧ (ns.foldl downOpn S).ids = S.ids ∧ (ns.foldl downOpn S).inn = S.inn ∧ (ns.foldl downOpn S).trail = S.trail ∧ (ns.foldl downOpn S).done = S.done ∧ (ns.foldl downOpn S).bad = S.bad ∧ (ns.foldl downOpn S).value = S.value
  | [], S, _, _ => ⟨fun m => by simp, rfl, rfl, rfl, rfl, rfl, rfl, rfl, rfl⟩
  | n :: t, S, hn, hr => by
    obtain ⟨h1, h2⟩ := List.nodup_cons.1 hn
    have hn0 := hr n (by simp)
    obtain ⟨g1, g2⟩ := fold_down t (downOpn S n) h2 (fun x hx => by have := hr x (by simp [hx]); simpa [downOpn] using this)
    refine ⟨fun m => ?_, g2⟩
    rw [List.foldl_cons, g1 m]
    have hg : (downOpn S n).opn.getD m 0 = if (m : Int) = n then wrap64 (S.opn.getD m 0 - 1) else S.opn.getD m 0 := by
      unfold downOpn
      dsimp only
      by_cases e : (m : Int) = n
      · have em : n.toNat = m := by omega
        rw [if_pos e, em, List.getD_eq_getElem?_getD, List.getElem?_set_self (by omega)]; rfl
      · have em : n.toNat ≠ m := by omega
        rw [if_neg e, List.getD_eq_getElem?_getD, List.getElem?_set_ne em, ← List.getD_eq_getElem?_getD]
    rw [hg]
    by_cases e : (m : Int) = n
    · have : ¬ (m : Int) ∈ t := by rw [e]; exact h1
      rw [if_neg this, if_pos e, if_pos (by simp [e])]
    · rw [if_neg e]
      by_cases hm : (m : Int) ∈ t
      · rw [if_pos hm, if_pos (by simp [hm])]
      · rw [if_neg hm, if_neg (by simp [hm, e])]

theorem occ_nodup (cls : List (List Int)) (l : Int) : (occ cls l).Nodup := by
  unfold occ
  refine List.Pairwise.map _ (fun a b h => ?_) ((List.nodup_range).filter _)
  omega

theorem filter_drop {c : List Int} (hn : c.Nodup) (p q : Int → Bool) (a : Int) (hp : p a = true) (hq : q a = false) (h : ∀ x, x ≠ a → p x = q x) : (c.filter p).length = (c.filter q).length + (if a ∈ c then 1 else 0) := by
  induction c with
  | nil => simp
  | cons x t ih =>
    obtain ⟨h1, h2⟩ := List.nodup_cons.1 hn
    have ih := ih h2
    by_cases e : x = a
    · subst e
      have e1 : t.filter p = t.filter q := List.filter_congr fun y hy => h y (fun e => h1 (by rw [← e]; exact hy))
      rw [List.filter_cons_of_pos hp, List.filter_cons_of_neg (by simp [hq]), e1]
      simp
    · have em : (a ∈ x :: t) = (a ∈ t) := by simp [Ne.symm e]
      simp only [em]
      by_cases hx : q x = true
      · rw [List.filter_cons_of_pos (by rw [h x e]; exact hx), List.filter_cons_of_pos hx, List.length_cons, List.length_cons, ih]; omega
      · rw [List.filter_cons_of_neg (by rw [h x e]; exact hx), List.filter_cons_of_neg hx, ih]
theorem posN_more {D c : List Int} {l : Int} (hn : c.Nodup) (hl : l ∉ D) : posN (D ++ [l]) c = posN D c + (if l ∈ c then 1 else 0) := by
  refine filter_drop hn _ _ l (by simp) (by simpa using hl) (fun x hx => ?_)
  simp [hx]
theorem opnN_less {D c : List Int} {l : Int} (hn : c.Nodup) (hl : l ∉ D) : opnN D c = opnN (D ++ [l]) c + (if -l ∈ c then 1 else 0) := by
  refine filter_drop hn _ _ (-l) (by simpa using hl) (by simp) (fun x hx => ?_)
  have : ¬ (-x = l) := fun e => hx (by omega)
  simp [this]
theorem posN_le (D c : List Int) : posN D c ≤ c.length := List.length_filter_le _ _
theorem opnN_le (D c : List Int) : opnN D c ≤ c.length := List.length_filter_le _ _

theorem Looked.more {D T c : List Int} {l : Int} (h : Looked D T c) (hl : -l ∉ c) : Looked (D ++ [l]) T c := by
  have hx : ∀ x ∈ c, -x ∉ D → -x ∉ D ++ [l] := fun x hx hd hm => by
    rcases List.mem_append.1 hm with hm | hm
    · exact hd hm
    · exact hl (by rw [← List.mem_singleton.1 hm, Int.neg_neg]; exact hx)
  rcases h with ⟨x, h1, h2⟩ | ⟨x, h1, y, h2, h3, h4, h5⟩ | ⟨x, h1, h2, h3⟩
  · exact .inl ⟨x, h1, List.mem_append_left _ h2⟩
  · exact .inr (.inl ⟨x, h1, y, h2, h3, hx x h1 h4, hx y h2 h5⟩)
  · exact .inr (.inr ⟨x, h1, hx x h1 h2, h3⟩)

theorem Inv.looks {cls : List (List Int)} {F : List Int} (hnd : ∀ c ∈ cls, c.Nodup) {D : List Int} : ∀ (ns : List Int) (S : St), Inv cls F S → Cnt cls D S → (∀ x ∈ D, x ∈ S.trail) → (∀ n ∈ ns, 0 ≤ n ∧ n < cls.length) →
    Inv cls F (ns.foldl lookIf S) ∧ Cnt cls D (ns.foldl lookIf S) ∧ (∀ x ∈ S.trail, x ∈ (ns.foldl lookIf S).trail) ∧ ((ns.foldl lookIf S).bad = -1 → S.bad = -1 ∧ ∀ n ∈ ns, Looked D (ns.foldl lookIf S).trail (cls.getD n.toNat []))
  | [], S, h, hc, hD, _ => ⟨h, hc, fun _ hx => hx, fun hb => ⟨hb, by simp⟩⟩
  | n :: t, S, h, hc, hD, hr => by
    have hn0 := hr n (by simp)
    rw [List.foldl_cons]
    by_cases hb : S.bad = -1
    · have e : lookIf S n = lookSt S n.toNat := by unfold lookIf; rw [if_pos hb]
      rw [e]
      obtain ⟨g1, g2, g3, g4⟩ := h.look hnd hc hD n.toNat (by omega)
      obtain ⟨k1, k2, k3, k4⟩ := Inv.looks hnd t _ g1 g2 (fun x hx => g3 x (hD x hx)) (fun x hx => hr x (by simp [hx]))
      refine ⟨k1, k2, fun x hx => k3 x (g3 x hx), fun hb2 => ?_⟩
      obtain ⟨b1, b2⟩ := k4 hb2
      obtain ⟨b3, b4⟩ := g4 b1
      refine ⟨b3, fun m hm => ?_⟩
      rcases List.mem_cons.1 hm with e | hm
      · rw [e]; exact b4.mono k3
      · exact b2 m hm
    · have e : lookIf S n = S := by unfold lookIf; rw [if_neg hb]
      rw [e]
      obtain ⟨k1, k2, k3, k4⟩ := Inv.looks hnd t S h hc hD (fun x hx => hr x (by simp [hx]))
      exact ⟨k1, k2, k3, fun hb2 => absurd (k4 hb2).1 hb⟩

end Go.Proofs.Ytfljggodnnpeiaa.Spr
