/- Part of the proof of ForwardScript: what the law uses of the text FcP. -/
import Derived.Test.YtcaoobdbgdldaaaGreatDoorZPFcE
import Derived.Test.YtcaoobdbgdldaaaGreatDoorZPJFwA
import Derived.Test.YtcaoobdbgdldaaaGreatDoorZPSnd
namespace Go.Proofs.YtcaoobdbgdldaaaGreatDoor.Rfw
open Go.RowKit Go.Proofs.YtcaoobdbgdldaaaGreatDoor.Lit Go.Proofs.YtcaoobdbgdldaaaGreatDoor.Spr Go.Proofs.YtcaoobdbgdldaaaGreatDoor.Rf Go.Proofs.YtcaoobdbgdldaaaGreatDoor.Fwd
set_option linter.unusedVariables false
set_option linter.unusedSimpArgs false

theorem tidy_ext {a b : List Int} (h : ∀ x, x ∈ a ↔ x ∈ b) : tidyL a = tidyL b := rising_ext _ _ (tidy_rising a) (tidy_rising b) fun y => by rw [mem_tidy, mem_tidy, h y]
theorem without_ext {a b : List Int} (h : ∀ x, x ∈ a ↔ x ∈ b) (l : Int) : withoutL a l = withoutL b l := by unfold withoutL; rw [tidy_ext h]
theorem hasB_ext {a b : List Int} (h : ∀ x, x ∈ a ↔ x ∈ b) (l : Int) : hasB a l = hasB b l := by rw [Bool.eq_iff_iff, m_has, m_has, h l]
theorem partB_ext {a b : List Int} (h : ∀ x, x ∈ a ↔ x ∈ b) (l : Int) (R : List Int → Bool) : partB l R a = partB l R b := by unfold partB; rw [hasB_ext h, without_ext h]
def SameC (cs ds : List (List Int)) : Prop := (∀ c ∈ cs, ∃ d ∈ ds, ∀ x, x ∈ c ↔ x ∈ d) ∧ (∀ d ∈ ds, ∃ c ∈ cs, ∀ x, x ∈ d ↔ x ∈ c)
theorem all_sc {cs ds : List (List Int)} (h : SameC cs ds) (p : List Int → Bool) (hp : ∀ a b : List Int, (∀ x, x ∈ a ↔ x ∈ b) → p a = p b) : cs.all p = ds.all p := by
  rw [Bool.eq_iff_iff, List.all_eq_true, List.all_eq_true]
  constructor
  · intro k d hd
    obtain ⟨c, hc, e⟩ := h.2 d hd
    rw [hp d c e]; exact k c hc
  · intro k c hc
    obtain ⟨d, hd, e⟩ := h.1 c hc
    rw [hp c d e]; exact k d hd
theorem clash_sc {cs ds : List (List Int)} (h : SameC cs ds) (F : List Int) : Clash cs F ↔ Clash ds F := ⟨fun k => k.mono h.1 (fun x hx => hx), fun k => k.mono h.2 (fun x hx => hx)⟩
theorem up_sc {cs ds : List (List Int)} (h : SameC cs ds) (F : List Int) (x : Int) : UP cs F x ↔ UP ds F x := ⟨fun k => k.mono h.1 (fun x hx => hx), fun k => k.mono h.2 (fun x hx => hx)⟩
theorem follows_sc {v u : Int} {cs ds : List (List Int)} (h : SameC cs ds) {a : List Int} (h1 : formedB v cs = true) (h2 : formedB u ds = true) (ha : ∀ x ∈ a, fm x = true) : followsR v cs a = followsR u ds a := by
  rw [Bool.eq_iff_iff, follows_iff h1 ha, follows_iff h2 ha]
  exact clash_sc h _
theorem safe_sc {v u : Int} {cs ds : List (List Int)} (h : SameC cs ds) (a : List Int) (h1 : formedB v cs = true) (h2 : formedB u ds = true) : safeR v cs a = safeR u ds a := by
  unfold safeR
  congr 1
  have hR : (fun rest => followsR v cs (joinL a rest)) = fun rest => followsR u ds (joinL a rest) := funext fun rest => follows_sc h h1 h2 (join_fm a rest)
  rw [hR]
  exact all_sc h _ fun x y e => partB_ext e _ _

theorem isV_of {L : List Int} (h0 : ∀ y ∈ L, y ≠ 0 ∧ -y ∉ L) (x : Int) : isV L x = if x ∈ L then 1 else (if -x ∈ L then -1 else 0) := by
  have key : ∀ (L : List Int) (a : Int), (∀ y ∈ L, y ≠ 0 ∧ -y ∉ L) → L.foldl (fun a l => if x = -l then -1 else (if x = l then 1 else a)) a = if x ∈ L then 1 else (if -x ∈ L then -1 else a) := by
    intro L
    induction L with
    | nil => intro a _; simp
    | cons l t ih =>
      intro a h
      have hl := h l List.mem_cons_self
      rw [List.foldl_cons, ih _ (fun y hy => ⟨(h y (List.mem_cons_of_mem _ hy)).1, fun e => (h y (List.mem_cons_of_mem _ hy)).2 (List.mem_cons_of_mem _ e)⟩)]
      by_cases h1 : x ∈ t
      · rw [if_pos h1, if_pos (List.mem_cons_of_mem _ h1)]
      · rw [if_neg h1]
        by_cases h2 : x = l
        · subst h2
          rw [if_neg (fun e => hl.2 (List.mem_cons_of_mem _ e)), if_neg (by have := hl.1; omega), if_pos rfl, if_pos List.mem_cons_self]
        · rw [if_neg (show ¬ x ∈ l :: t from fun e => by rcases List.mem_cons.1 e with e | e; exact h2 e; exact h1 e)]
          by_cases h3 : -x ∈ t
          · rw [if_pos h3, if_pos (List.mem_cons_of_mem _ h3)]
          · rw [if_neg h3]
            by_cases h4 : x = -l
            · rw [if_pos h4, if_pos (show -x ∈ l :: t by rw [h4, Int.neg_neg]; exact List.mem_cons_self)]
            · rw [if_neg h4, if_neg h2, if_neg (show ¬ -x ∈ l :: t from fun e => by
                rcases List.mem_cons.1 e with e | e
                · omega
                · exact h3 e)]
  exact key L 0 h0
theorem sum_shift (L : List Int) : ∀ (c : List Int) (a : Int), c.foldl (fun a l => a + isV L l) a = a + sumR L c
  | [], a => by unfold sumR; simp
  | x :: t, a => by
    unfold sumR
    rw [List.foldl_cons, List.foldl_cons, sum_shift L t, sum_shift L t]; omega
theorem sum_cons (L : List Int) (x : Int) (t : List Int) : sumR L (x :: t) = isV L x + sumR L t := by
  have := sum_shift L t (0 + isV L x)
  unfold sumR at this ⊢
  rw [List.foldl_cons, this]; omega
theorem tru_shift (L : List Int) : ∀ (c : List Int) (a : Int), c.foldl (fun a l => a + (if isV L l = 1 then 1 else 0)) a = a + truthsR L c
  | [], a => by unfold truthsR; simp
  | x :: t, a => by
    unfold truthsR
    rw [List.foldl_cons, List.foldl_cons, tru_shift L t, tru_shift L t]; omega
theorem tru_cons (L : List Int) (x : Int) (t : List Int) : truthsR L (x :: t) = (if isV L x = 1 then 1 else 0) + truthsR L t := by
  have := tru_shift L t (0 + (if isV L x = 1 then 1 else 0))
  unfold truthsR at this ⊢
  rw [List.foldl_cons, this]; omega
theorem tru_zero (L : List Int) : ∀ t : List Int, 0 ≤ truthsR L t ∧ (truthsR L t = 0 ↔ ∀ y ∈ t, isV L y ≠ 1)
  | [] => ⟨by unfold truthsR; simp, by unfold truthsR; simp⟩
  | x :: t => by
    obtain ⟨h1, h2⟩ := tru_zero L t
    rw [tru_cons]
    by_cases hx : isV L x = 1
    · rw [if_pos hx]
      exact ⟨by omega, ⟨fun h => by omega, fun h => absurd hx (h x List.mem_cons_self)⟩⟩
    · rw [if_neg hx]
      refine ⟨by omega, ⟨fun h y hy => ?_, fun h => ?_⟩⟩
      · rcases List.mem_cons.1 hy with rfl | hy
        · exact hx
        · exact h2.1 (by omega) y hy
      · have := h2.2 fun y hy => h y (List.mem_cons_of_mem _ hy)
        omega
theorem tru_one (L : List Int) : ∀ t : List Int, t.Nodup → (truthsR L t = 1 ↔ ∃ x ∈ t, isV L x = 1 ∧ ∀ y ∈ t, y ≠ x → isV L y ≠ 1)
  | [], _ => by unfold truthsR; simp
  | x :: t, hn => by
    obtain ⟨hx, hn⟩ := List.nodup_cons.1 hn
    obtain ⟨h1, h2⟩ := tru_zero L t
    have ih := tru_one L t hn
    rw [tru_cons]
    by_cases hv : isV L x = 1
    · rw [if_pos hv]
      constructor
      · intro h
        have h0 := h2.1 (by omega)
        refine ⟨x, List.mem_cons_self, hv, fun y hy hne => ?_⟩
        rcases List.mem_cons.1 hy with e | hy
        · exact absurd e hne
        · exact h0 y hy
      · rintro ⟨z, hz, hz1, hz2⟩
        have hzx : z = x := Classical.byContradiction fun hne => hz2 x List.mem_cons_self (fun e => hne e.symm) hv
        subst hzx
        have := h2.2 fun y hy => hz2 y (List.mem_cons_of_mem _ hy) (fun e => hx (e ▸ hy))
        omega
    · rw [if_neg hv, Int.zero_add, ih]
      constructor
      · rintro ⟨z, hz, hz1, hz2⟩
        refine ⟨z, List.mem_cons_of_mem _ hz, hz1, fun y hy hne => ?_⟩
        rcases List.mem_cons.1 hy with rfl | hy
        · exact hv
        · exact hz2 y hy hne
      · rintro ⟨z, hz, hz1, hz2⟩
        rcases List.mem_cons.1 hz with rfl | hz
        · exact absurd hz1 hv
        · exact ⟨z, hz, hz1, fun y hy hne => hz2 y (List.mem_cons_of_mem _ hy) hne⟩
theorem no_zero (L : List Int) : ∀ t : List Int, 0 ≤ sumR L t + t.length - 2 * truthsR L t ∧ (sumR L t + t.length - 2 * truthsR L t = 0 ↔ ∀ y ∈ t, isV L y ≠ 0)
  | [] => ⟨by unfold truthsR sumR; simp, by unfold truthsR sumR; simp⟩
  | x :: t => by
    obtain ⟨h1, h2⟩ := no_zero L t
    have hb := isV_bd L x
    rw [tru_cons, sum_cons, List.length_cons]
    have hmem : (∀ y ∈ x :: t, isV L y ≠ 0) ↔ isV L x ≠ 0 ∧ ∀ y ∈ t, isV L y ≠ 0 := List.forall_mem_cons
    rw [hmem, ← h2]
    by_cases hv : isV L x = 1
    · rw [if_pos hv]; constructor <;> (try constructor) <;> omega
    · rw [if_neg hv]
      refine ⟨by push_cast; omega, ⟨fun h => ⟨by push_cast at h; omega, by push_cast at h; omega⟩, fun h => by push_cast; omega⟩⟩
theorem counts_iff (L t : List Int) (hn : t.Nodup) : (truthsR L t = 1 ∧ sumR L t = 2 - t.length) ↔ ∃ x ∈ t, isV L x = 1 ∧ ∀ y ∈ t, y ≠ x → isV L y = -1 := by
  obtain ⟨h1, h2⟩ := no_zero L t
  constructor
  · rintro ⟨ha, hb⟩
    obtain ⟨x, hx, hx1, hx2⟩ := (tru_one L t hn).1 ha
    refine ⟨x, hx, hx1, fun y hy hne => ?_⟩
    have := h2.1 (by omega) y hy
    have := hx2 y hy hne
    have := isV_bd L y
    omega
  · rintro ⟨x, hx, hx1, hx2⟩
    have ha := (tru_one L t hn).2 ⟨x, hx, hx1, fun y hy hne => by rw [hx2 y hy hne]; decide⟩
    have hb := h2.2 fun y hy => by
      by_cases e : y = x
      · rw [e, hx1]; decide
      · rw [hx2 y hy e]; decide
    exact ⟨ha, by omega⟩

end Go.Proofs.YtcaoobdbgdldaaaGreatDoor.Rfw
