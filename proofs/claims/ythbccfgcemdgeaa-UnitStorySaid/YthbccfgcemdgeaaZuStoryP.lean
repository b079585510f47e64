/- Part of the proof of UnitStory: what the law uses of the text StoryP. -/
import Derived.Test.YthbccfgcemdgeaaZuWhy
namespace Go.Proofs.Ythbccfgcemdgeaa.Spr
open Go.RowKit Go.Maps Go.Proofs.Ythbccfgcemdgeaa.Lit
set_option linter.unusedVariables false
set_option linter.unusedSimpArgs false

theorem says_false {K : List Int} : ∀ (c : List Int) (l : Int), (∀ x ∈ c, x ≠ 0) → (saysL K c l).1 = true → l = 0 ∧ ∀ x ∈ c, -x ∈ K
  | [], l, _, h => ⟨of_decide_eq_true h, by simp⟩
  | x :: c, l, h0, h => by
    have hx := h0 x List.mem_cons_self
    have h0c : ∀ y ∈ c, y ≠ 0 := fun y hy => h0 y (List.mem_cons_of_mem _ hy)
    unfold saysL at h
    split at h
    · cases h
    · split at h
      · rename_i h1 h2
        obtain ⟨rfl, h3⟩ := says_false c l h0c h
        refine ⟨rfl, fun y hy => ?_⟩
        rcases List.mem_cons.1 hy with rfl | hy
        · exact h2.resolve_right hx
        · exact h3 y hy
      · split at h
        · cases h
        · exact absurd (says_false c x h0c h).1 hx
theorem says_unit {K : List Int} : ∀ (c : List Int) (l y : Int), (∀ x ∈ c, x ≠ 0) → (saysL K c l).2 = y → y ≠ 0 → (l = 0 ∨ l = y) ∧ (y ∈ c ∨ y = l) ∧ ∀ x ∈ c, x ≠ y → -x ∈ K
  | [], l, y, _, h, hy => ⟨.inr h, .inr h.symm, by simp⟩
  | x :: c, l, y, h0, h, hy => by
    have hx := h0 x List.mem_cons_self
    have h0c : ∀ y ∈ c, y ≠ 0 := fun y hy => h0 y (List.mem_cons_of_mem _ hy)
    unfold saysL at h
    split at h
    · exact absurd h.symm hy
    · split at h
      · rename_i h1 h2
        obtain ⟨h3, h4, h5⟩ := says_unit c l y h0c h hy
        refine ⟨h3, h4.imp (List.mem_cons_of_mem _) id, fun z hz hne => ?_⟩
        rcases List.mem_cons.1 hz with rfl | hz
        · rcases h2 with h2 | h2
          · exact h2
          · subst h2
            rcases h3 with h3 | h3
            · exact absurd h3 hx
            · exact absurd h3 hne
        · exact h5 z hz hne
      · split at h
        · exact absurd h.symm hy
        · rename_i h1 h2 h6
          have hl : l = 0 := Decidable.byContradiction h6
          obtain ⟨h3, h4, h5⟩ := says_unit c x y h0c h hy
          have h7 : x = y := h3.resolve_left hx
          subst h7
          refine ⟨.inl hl, .inl List.mem_cons_self, fun z hz hne => ?_⟩
          rcases List.mem_cons.1 hz with rfl | hz
          · exact absurd rfl hne
          · exact h5 z hz hne
theorem says_quiet {K : List Int} : ∀ (c : List Int) (l : Int), (∀ x ∈ c, x ≠ 0) → (saysL K c l).1 = false → (saysL K c l).2 = 0 → (∃ x ∈ c, x ∈ K) ∨ (l = 0 ∧ ∃ x ∈ c, ∃ y ∈ c, x ≠ y ∧ -x ∉ K ∧ -y ∉ K) ∨ (l ≠ 0 ∧ ∃ x ∈ c, x ≠ l ∧ -x ∉ K)
  | [], l, _, h1, h2 => by
    have h3 : l ≠ 0 := of_decide_eq_false h1
    exact absurd h2 h3
  | x :: c, l, h0, h1, h2 => by
    have hx := h0 x List.mem_cons_self
    have h0c : ∀ y ∈ c, y ≠ 0 := fun y hy => h0 y (List.mem_cons_of_mem _ hy)
    unfold saysL at h1 h2
    split at h1
    · rename_i h3
      exact .inl ⟨x, List.mem_cons_self, h3⟩
    · rename_i h3
      rw [if_neg h3] at h2
      split at h1
      · rename_i h4
        rw [if_pos h4] at h2
        rcases says_quiet c l h0c h1 h2 with ⟨z, hz, hk⟩ | ⟨hl, z, hz, y, hy, h5⟩ | ⟨hl, z, hz, h5⟩
        · exact .inl ⟨z, List.mem_cons_of_mem _ hz, hk⟩
        · exact .inr (.inl ⟨hl, z, List.mem_cons_of_mem _ hz, y, List.mem_cons_of_mem _ hy, h5⟩)
        · exact .inr (.inr ⟨hl, z, List.mem_cons_of_mem _ hz, h5⟩)
      · rename_i h4
        rw [if_neg h4] at h2
        have h6 : -x ∉ K := fun h => h4 (.inl h)
        have h7 : x ≠ l := fun h => h4 (.inr h)
        split at h1
        · rename_i h5
          exact .inr (.inr ⟨h5, x, List.mem_cons_self, h7, h6⟩)
        · rename_i h5
          rw [if_neg h5] at h2
          have hl : l = 0 := Decidable.byContradiction h5
          rcases says_quiet c x h0c h1 h2 with ⟨z, hz, hk⟩ | ⟨hl2, _⟩ | ⟨_, z, hz, h8, h9⟩
          · exact .inl ⟨z, List.mem_cons_of_mem _ hz, hk⟩
          · exact absurd hl2 hx
          · exact .inr (.inl ⟨hl, x, List.mem_cons_self, z, List.mem_cons_of_mem _ hz, fun e => h8 e.symm, h6, h9⟩)

theorem scan_some {K : List Int} : ∀ (cs : List (List Int)) (m n : Nat) (x : Int), scanL K cs m = some (n, x) → ∃ j, n = m + j ∧ j < cs.length ∧ (saysL K (cs.getD j []) 0 = if x = 0 then (true, 0) else (false, x)) ∧ ∀ i, i < j → saysL K (cs.getD i []) 0 = (false, 0)
  | [], m, n, x, h => by cases h
  | c :: cs, m, n, x, h => by
    unfold scanL at h
    split at h
    · rename_i h1
      injection h with h
      injection h with h2 h3
      subst h2 h3
      refine ⟨0, rfl, by simp, ?_, fun i hi => absurd hi (Nat.not_lt_zero _)⟩
      rw [if_pos rfl]
      exact Prod.ext h1 (says_bad c 0 h1)
    · rename_i h1
      split at h
      · rename_i h2
        injection h with h
        injection h with h3 h4
        subst h3 h4
        refine ⟨0, rfl, by simp, ?_, fun i hi => absurd hi (Nat.not_lt_zero _)⟩
        rw [if_neg h2]
        exact Prod.ext (Bool.eq_false_iff.2 h1) rfl
      · rename_i h2
        obtain ⟨j, h3, h4, h5, h6⟩ := scan_some cs (m + 1) n x h
        refine ⟨j + 1, by omega, by simp; omega, h5, fun i hi => ?_⟩
        cases i with
        | zero => exact Prod.ext (Bool.eq_false_iff.2 h1) (Decidable.byContradiction h2)
        | succ i => exact h6 i (by omega)
theorem scan_none {K : List Int} : ∀ (cs : List (List Int)) (m : Nat), scanL K cs m = none → ∀ i, i < cs.length → saysL K (cs.getD i []) 0 = (false, 0)
  | [], m, h, i, hi => absurd hi (Nat.not_lt_zero _)
  | c :: cs, m, h, i, hi => by
    unfold scanL at h
    split at h
    · cases h
    · rename_i h1
      split at h
      · cases h
      · rename_i h2
        cases i with
        | zero => exact Prod.ext (Bool.eq_false_iff.2 h1) (Decidable.byContradiction h2)
        | succ i => exact scan_none cs (m + 1) h i (by simp at hi; omega)

def Story (cs : List (List Int)) : List Int → List (Int × Int) → Int → Prop
  | K, [], at_ => (scanL K cs 0 = none ∧ at_ = -1) ∨ ∃ n : Nat, scanL K cs 0 = some (n, 0) ∧ at_ = n
  | K, p :: rest, at_ => ∃ n : Nat, scanL K cs 0 = some (n, p.1) ∧ p.1 ≠ 0 ∧ p.2 = n ∧ Story cs (K ++ [p.1]) rest at_
theorem whyF_story {cs : List (List Int)} : ∀ (g : Nat) (K : List Int) (acc L : List (Int × Int)) (at_ : Int), whyF cs g K acc = some (L, at_) → ∃ rest, L = acc ++ rest ∧ Story cs K rest at_
  | 0, K, acc, L, at_, h => by cases h
  | g + 1, K, acc, L, at_, h => by
    unfold whyF at h
    split at h
    · rename_i hs
      injection h with h
      injection h with h1 h2
      subst h1 h2
      exact ⟨[], by simp, .inl ⟨hs, rfl⟩⟩
    · rename_i n x hs
      split at h
      · rename_i hx
        subst hx
        injection h with h
        injection h with h1 h2
        subst h1 h2
        exact ⟨[], by simp, .inr ⟨n, hs, rfl⟩⟩
      · rename_i hx
        obtain ⟨rest, h1, h2⟩ := whyF_story g _ _ L at_ h
        exact ⟨(x, (n : Int)) :: rest, by rw [h1]; simp, n, hs, hx, rfl, h2⟩
theorem whyF_ends {cs : List (List Int)} (hc : ∀ c ∈ cs, ∀ x ∈ c, fm x = true) : ∀ (g : Nat) (K : List Int) (acc : List (Int × Int)), (acc.map Prod.fst).Nodup → (∀ x ∈ acc.map Prod.fst, fm x = true ∧ x ∈ K) → g + acc.length = 2097154 → whyF cs g K acc ≠ none
  | 0, K, acc, hn, hf, hg => by
    have := fm_short hn (fun x hx => (hf x hx).1)
    rw [List.length_map] at this
    omega
  | g + 1, K, acc, hn, hf, hg => by
    unfold whyF
    split
    · simp
    · rename_i n x hs
      split
      · simp
      · rename_i hx
        obtain ⟨j, h1, h2, h3, _⟩ := scan_some _ _ _ _ hs
        rw [if_neg hx] at h3
        have h4 := says_new (K := K) (c := cs.getD j []) (by rw [h3]; exact hx)
        rw [h3] at h4
        have hm : acc.map Prod.fst ++ [x] = (acc ++ [(x, (n : Int))]).map Prod.fst := by rw [List.map_append]; rfl
        have hcj : cs.getD j [] ∈ cs := by rw [List.getD_eq_getElem?_getD, List.getElem?_eq_getElem h2]; exact List.getElem_mem _
        refine whyF_ends hc g _ _ ?_ ?_ (by rw [List.length_append, List.length_singleton]; omega)
        · rw [← hm, List.nodup_append]
          refine ⟨hn, by simp, fun a ha b hb => ?_⟩
          rw [List.mem_singleton] at hb
          subst hb
          rintro rfl
          exact h4.2.1 (hf a ha).2
        · rw [← hm]
          intro y hy
          rcases List.mem_append.1 hy with hy | hy
          · exact ⟨(hf y hy).1, List.mem_append_left _ (hf y hy).2⟩
          · rw [List.mem_singleton] at hy
            subst hy
            exact ⟨hc _ hcj _ h4.1, by simp⟩
theorem why_story {cs : List (List Int)} (hc : ∀ c ∈ cs, ∀ x ∈ c, fm x = true) (F : List Int) : Story cs F (whyW cs F).1 (whyW cs F).2 := by
  have h := whyF_ends hc 2097154 F [] (by simp) (by simp) rfl
  unfold whyW
  generalize hR : whyF cs 2097154 F [] = R at *
  cases R with
  | none => exact absurd rfl h
  | some R =>
    obtain ⟨L, at_⟩ := R
    obtain ⟨rest, h1, h2⟩ := whyF_story _ _ _ _ _ hR
    rw [List.nil_append] at h1
    subst h1
    exact h2
theorem why_len {cs : List (List Int)} (hc : ∀ c ∈ cs, ∀ x ∈ c, fm x = true) {F : List Int} : ∀ (L : List (Int × Int)) (K : List Int) (at_ : Int), Story cs K L at_ → (L.map Prod.fst).Nodup ∧ ∀ x ∈ L.map Prod.fst, fm x = true ∧ x ∉ K ∧ x ≠ 0
  | [], K, at_, h => by simp
  | p :: rest, K, at_, ⟨n, hs, hp, hn, hr⟩ => by
    obtain ⟨j, h1, h2, h3, _⟩ := scan_some _ _ _ _ hs
    rw [if_neg hp] at h3
    have h4 := says_new (K := K) (c := cs.getD j []) (by rw [h3]; exact hp)
    rw [h3] at h4
    have hcj : cs.getD j [] ∈ cs := by rw [List.getD_eq_getElem?_getD, List.getElem?_eq_getElem h2]; exact List.getElem_mem _
    obtain ⟨h5, h6⟩ := why_len hc (F := F) rest _ _ hr
    rw [List.map_cons]
    refine ⟨List.nodup_cons.2 ⟨fun hm => (h6 _ hm).2.1 (by simp), h5⟩, fun x hx => ?_⟩
    rcases List.mem_cons.1 hx with rfl | hx
    · exact ⟨hc _ hcj _ h4.1, h4.2.1, hp⟩
    · exact ⟨(h6 x hx).1, fun h => (h6 x hx).2.1 (List.mem_append_left _ h), (h6 x hx).2.2⟩

def Cons (K : List Int) : Prop := ∀ x ∈ K, -x ∉ K
theorem story_end {cs : List (List Int)} {F : List Int} (hc0 : ∀ c ∈ cs, ∀ x ∈ c, x ≠ 0) : ∀ (L : List (Int × Int)) (K : List Int) (at_ : Int), Story cs K L at_ → Cons K → (∀ x ∈ K, UP cs F x) → (∀ x ∈ F, x ∈ K) →
    (∀ x ∈ K ++ L.map Prod.fst, UP cs F x) ∧ ((0 ≤ at_ ∧ Clash cs F) ∨ (at_ = -1 ∧ ¬ Clash cs F ∧ ∀ x, UP cs F x → x ∈ K ++ L.map Prod.fst))
  | [], K, at_, h, hcons, hup, hF => by
    rw [List.map_nil, List.append_nil]
    refine ⟨hup, ?_⟩
    rcases h with ⟨h1, rfl⟩ | ⟨n, h1, rfl⟩
    · refine .inr ⟨rfl, ?_⟩
      have hq : ∀ c ∈ cs, (∃ x ∈ c, x ∈ K) ∨ ∃ x ∈ c, ∃ y ∈ c, x ≠ y ∧ -x ∉ K ∧ -y ∉ K := fun c hc => by
        obtain ⟨i, hi, rfl⟩ := List.getElem_of_mem hc
        have h2 := scan_none cs 0 h1 i hi
        rw [List.getD_eq_getElem?_getD, List.getElem?_eq_getElem hi] at h2
        simp only [Option.getD_some] at h2
        rcases says_quiet cs[i] 0 (hc0 _ hc) (by rw [h2]) (by rw [h2]) with h3 | ⟨_, h3⟩ | ⟨h3, _⟩
        · exact .inl h3
        · exact .inr h3
        · exact absurd rfl h3
      have hcl : ∀ x, UP cs F x → x ∈ K := fun x hx => by
        induction hx with
        | fact h => exact hF _ h
        | @unit c l h1 h2 _ ih =>
          rcases hq c h1 with ⟨y, hy, hk⟩ | ⟨y, hy, z, hz, hne, hy2, hz2⟩
          · by_cases hyl : y = l
            · subst hyl; exact hk
            · exact absurd (ih y hy hyl) (hcons y hk)
          · by_cases hyl : y = l
            · subst hyl
              exact absurd (ih z hz (fun e => hne e.symm)) hz2
            · exact absurd (ih y hy hyl) hy2
      refine ⟨fun hcl2 => ?_, hcl⟩
      rcases hcl2 with ⟨l, h3, h4⟩ | ⟨c, h3, h4⟩
      · exact hcons l (hcl l h3) (hcl _ h4)
      · rcases hq c h3 with ⟨y, hy, hk⟩ | ⟨y, hy, z, hz, hne, hy2, hz2⟩
        · exact hcons y hk (hcl _ (h4 y hy))
        · exact hy2 (hcl _ (h4 y hy))
    · refine .inl ⟨by omega, ?_⟩
      obtain ⟨j, h2, h3, h4, _⟩ := scan_some _ _ _ _ h1
      rw [if_pos rfl] at h4
      have hcj : cs.getD j [] ∈ cs := by rw [List.getD_eq_getElem?_getD, List.getElem?_eq_getElem h3]; exact List.getElem_mem _
      obtain ⟨_, h5⟩ := says_false (cs.getD j []) 0 (hc0 _ hcj) (by rw [h4])
      exact .inr ⟨_, hcj, fun x hx => hup _ (h5 x hx)⟩
  | p :: rest, K, at_, ⟨n, hs, hp, hn, hr⟩, hcons, hup, hF => by
    obtain ⟨j, h1, h2, h3, _⟩ := scan_some _ _ _ _ hs
    rw [if_neg hp] at h3
    have hcj : cs.getD j [] ∈ cs := by rw [List.getD_eq_getElem?_getD, List.getElem?_eq_getElem h2]; exact List.getElem_mem _
    have h4 := says_new (K := K) (c := cs.getD j []) (by rw [h3]; exact hp)
    rw [h3] at h4
    obtain ⟨_, _, h5⟩ := says_unit (cs.getD j []) 0 p.1 (hc0 _ hcj) (by rw [h3]) hp
    have hupp : UP cs F p.1 := .unit hcj h4.1 (fun x hx hne => hup _ (h5 x hx hne))
    have e : K ++ (p :: rest).map Prod.fst = (K ++ [p.1]) ++ rest.map Prod.fst := by simp
    rw [e]
    refine story_end hc0 rest _ _ hr ?_ ?_ (fun x hx => List.mem_append_left _ (hF x hx))
    · intro x hx hx2
      rw [List.mem_append, List.mem_singleton] at hx hx2
      rcases hx with hx | hx <;> rcases hx2 with hx2 | hx2
      · exact hcons x hx hx2
      · exact h4.2.2 (by rw [← hx2, Int.neg_neg]; exact hx)
      · rw [hx] at hx2; exact h4.2.2 hx2
      · rw [hx] at hx2; omega
    · intro x hx
      rw [List.mem_append, List.mem_singleton] at hx
      rcases hx with hx | rfl
      · exact hup x hx
      · exact hupp

def standsL (K : List Int) : List Int → Int → Int × Int
  | [], o => if o = 0 then (-1, 0) else (2, o)
  | x :: c, o => if x ∈ K then (1, 0) else if -x ∈ K then standsL K c o else if o = 0 then standsL K c x else if o = x then standsL K c x else (0, 0)
theorem stands_says {K : List Int} : ∀ (c : List Int) (o : Int), (∀ x ∈ c, x ≠ 0) →
    ((saysL K c o).1 = true → (standsL K c o).1 = -1) ∧ ((saysL K c o).1 = false → (saysL K c o).2 ≠ 0 → standsL K c o = (2, (saysL K c o).2)) ∧ ((saysL K c o).1 = false → (saysL K c o).2 = 0 → (standsL K c o).1 = 0 ∨ (standsL K c o).1 = 1)
  | [], o, _ => by
    unfold saysL standsL
    by_cases h : o = 0
    · subst h; simp
    · simp [h]
  | x :: c, o, h0 => by
    have hx := h0 x List.mem_cons_self
    have h0c : ∀ y ∈ c, y ≠ 0 := fun y hy => h0 y (List.mem_cons_of_mem _ hy)
    unfold saysL standsL
    by_cases h1 : x ∈ K
    · simp [h1]
    · rw [if_neg h1, if_neg h1]
      by_cases h2 : -x ∈ K
      · rw [if_pos (.inl h2), if_pos h2]
        exact stands_says c o h0c
      · rw [if_neg h2]
        by_cases h3 : x = o
        · subst h3
          rw [if_pos (.inr rfl), if_neg hx, if_pos rfl]
          exact stands_says c x h0c
        · rw [if_neg (fun h => h.elim h2 h3)]
          by_cases h4 : o = 0
          · rw [if_neg (fun h => h h4), if_pos h4]
            exact stands_says c x h0c
          · rw [if_pos h4, if_neg h4, if_neg (fun h => h3 h.symm)]
            simp

end Go.Proofs.Ythbccfgcemdgeaa.Spr
