/- Part of the proof of RupGrows: what the law uses of the text RupM. -/
import Derived.Test.YthbccfgcemdgeabZgFolP
import Derived.Test.YthbccfgcemdgeabZgBlocked
namespace Go.Proofs.Ythbccfgcemdgeab.Rf
open Go.RowKit Go.Proofs.Ythbccfgcemdgeab.Lit Go.Proofs.Ythbccfgcemdgeab.Spr
set_option linter.unusedVariables false
set_option linter.unusedSimpArgs false

theorem mem_negL {c : List Int} {x : Int} : x ∈ negL c ↔ -x ∈ c := by
  unfold negL
  rw [List.mem_map]
  constructor
  · rintro ⟨y, hy, rfl⟩; simpa using hy
  · intro h; exact ⟨-x, h, by omega⟩
theorem mem_join {a b : List Int} {x : Int} : x ∈ joinL a b ↔ (x ∈ a ∨ x ∈ b) ∧ fm x = true := by
  unfold joinL; rw [mem_tidy, List.mem_append]
theorem mem_without {c : List Int} {l x : Int} : x ∈ withoutL c l ↔ x ∈ c ∧ fm x = true ∧ x ≠ l := by
  unfold withoutL dropL
  rw [List.mem_filter, mem_tidy]
  simp [and_assoc]
theorem clash_taut {cs : List (List Int)} {F : List Int} {x : Int} (h1 : x ∈ F) (h2 : -x ∈ F) : Clash cs F := .inl ⟨x, .fact h1, .fact h2⟩
theorem clash_clause {cs : List (List Int)} {F d : List Int} (hd : d ∈ cs) (h : ∀ x ∈ d, -x ∈ F) : Clash cs F := .inr ⟨d, hd, fun x hx => .fact (h x hx)⟩
theorem partB_iff {l : Int} {R : List Int → Bool} {d : List Int} : partB l R d = true ↔ (hasB d (-l) = true → R (withoutL d (-l)) = true) := by
  unfold partB
  cases hasB d (-l) <;> simp
theorem blocked_safe {v : Int} {cs : List (List Int)} {c : List Int} (h1 : formedB v cs = true) (hc : ∀ x ∈ c, fm x = true) (h : blockedB cs c = true) : safeR v cs c = true := by
  unfold blockedB at h
  unfold safeR
  rw [Bool.and_eq_true] at h ⊢
  refine ⟨h.1, List.all_eq_true.2 fun d hd => partB_iff.2 fun hh => ?_⟩
  have := partB_iff.1 (List.all_eq_true.1 h.2 d hd) hh
  obtain ⟨x, hx, hf, hn⟩ := (taut_iff _).1 this
  refine (follows_iff h1 (join_fm _ _)).2 ?_
  have sub : ∀ y, y ∈ joinL (withoutL c (c.getD 0 0)) (withoutL d (-(c.getD 0 0))) → y ∈ joinL c (withoutL d (-(c.getD 0 0))) := fun y hy => by
    rw [mem_join] at hy ⊢
    refine ⟨?_, hy.2⟩
    rcases hy.1 with h | h
    · exact .inl (mem_without.1 h).1
    · exact .inr h
  exact clash_taut (x := x) (mem_negL.2 (sub _ hn)) (mem_negL.2 (by rw [Int.neg_neg]; exact sub _ hx))

end Go.Proofs.Ythbccfgcemdgeab.Rf
