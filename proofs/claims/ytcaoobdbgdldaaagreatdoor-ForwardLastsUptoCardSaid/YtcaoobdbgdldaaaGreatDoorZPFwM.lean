/- Part of the proof of ForwardLasts: what the law uses of the text FwM. -/
import Derived.Test.YtcaoobdbgdldaaaGreatDoorZPFwK
import Derived.Test.YtcaoobdbgdldaaaGreatDoorZPSnd
namespace Go.Proofs.YtcaoobdbgdldaaaGreatDoor.Fwd
open Go.RowKit Go.Proofs.YtcaoobdbgdldaaaGreatDoor.Lit Go.Proofs.YtcaoobdbgdldaaaGreatDoor.Spr
set_option linter.unusedVariables false
set_option linter.unusedSimpArgs false

def Live (F : Fw) : Prop := (∀ d ∈ F.all, ∀ x ∈ d, fm x = true) ∧ ∃ val, Proper val ∧ Mod val F.all
theorem put_all (F : Fw) (c : List Int) : ∀ d ∈ (putW F c).all, d ∈ F.all ∨ d = tidyL c := by
  intro d hd
  unfold putW at hd
  dsimp only at hd
  split at hd
  · rcases List.mem_append.1 hd with e | e
    · exact .inl e
    · exact .inr (List.mem_singleton.1 e)
  · exact .inl hd
theorem tidy_true {val : Int → Bool} {c : List Int} (hc : ∀ x ∈ c, fm x = true) (h : ∃ x ∈ c, val x = true) : ∃ x ∈ tidyL c, val x = true := by
  obtain ⟨x, hx, hv⟩ := h
  exact ⟨x, (mem_tidy c x).2 ⟨hx, hc x hx⟩, hv⟩
theorem Live.put {F : Fw} {c : List Int} {val : Int → Bool} (hf : ∀ d ∈ F.all, ∀ x ∈ d, fm x = true) (hc : ∀ x ∈ c, fm x = true) (hv : Proper val) (hm : Mod val F.all) (h : ∃ x ∈ c, val x = true) : Live (putW F c) := by
  refine ⟨fun d hd x hx => ?_, val, hv, fun d hd => ?_⟩
  · rcases put_all F c d hd with e | e
    · exact hf d e x hx
    · subst e; exact tidy_fm c x hx
  · rcases put_all F c d hd with e | e
    · exact hm d e
    · subst e; exact tidy_true hc h
theorem Live.new {v : Int} {cs : List (List Int)} {val : Int → Bool} (hf : ∀ c ∈ cs, ∀ x ∈ c, fm x = true) (hv : Proper val) (hm : Mod val cs) : Live (newW cs) := by
  unfold newW
  have : ∀ (l : List (List Int)) (F : Fw), (∀ c ∈ l, c ∈ cs) → (∀ d ∈ F.all, ∀ x ∈ d, fm x = true) → Mod val F.all → (∀ d ∈ (l.foldl putW F).all, ∀ x ∈ d, fm x = true) ∧ Mod val (l.foldl putW F).all := by
    intro l
    induction l with
    | nil => exact fun F _ h1 h2 => ⟨h1, h2⟩
    | cons c t ih =>
      intro F hl h1 h2
      have hcm := hl c List.mem_cons_self
      refine ih _ (fun d hd => hl d (List.mem_cons_of_mem _ hd)) (fun d hd x hx => ?_) (fun d hd => ?_)
      · rcases put_all F c d hd with e | e
        · exact h1 d e x hx
        · subst e; exact tidy_fm c x hx
      · rcases put_all F c d hd with e | e
        · exact h2 d e
        · subst e; exact tidy_true (hf c hcm) (hm c hcm)
  obtain ⟨h1, h2⟩ := this cs ⟨[], [], 0, false⟩ (fun c h => h) (by simp) (by intro d hd; cases hd)
  exact ⟨h1, val, hv, h2⟩
theorem Live.drop {F : Fw} (h : Live F) (c : List Int) : Live (dropW F c).2.2 := by
  unfold dropW
  split
  · split
    · exact h
    · split
      · exact h
      · obtain ⟨h1, val, hv, hm⟩ := h
        have hsub : ∀ d ∈ (goneW F (tidyL c)).all, d ∈ F.all := by
          intro d hd
          unfold goneW at hd
          dsimp only at hd
          split at hd
          · exact (List.mem_filter.1 hd).1
          · exact hd
        exact ⟨fun d hd => h1 d (hsub d hd), val, hv, fun d hd => hm d (hsub d hd)⟩
  · exact h
theorem Live.add {F : Fw} (h : Live F) (c : List Int) : Live (addW F c).2.2 ∧ ((addW F c).1 ≠ 0 → c ≠ []) := by
  obtain ⟨h1, val, hv, hm⟩ := h
  unfold addW
  by_cases hr : refusesR F c = 0
  · rw [if_pos hr]
    have hc : ∀ x ∈ c, fm x = true := by
      unfold refusesR at hr
      split at hr
      · rename_i h; exact List.all_eq_true.1 h
      · cases hr
    by_cases hk : (kindF F.vars F.all c).1 = 0
    · rw [if_pos hk]
      exact ⟨⟨h1, val, hv, hm⟩, fun h => absurd rfl h⟩
    · rw [if_neg hk]
      have hs : ∃ val', Proper val' ∧ Mod val' F.all ∧ ∃ x ∈ c, val' x = true := by
        unfold kindF kindR at hk
        split at hk
        · split at hk
          · rename_i hf
            exact ⟨val, hv, hm, follows_sound hf h1 hc hv hm⟩
          · split at hk
            · rename_i hf
              exact safe_sound hf h1 hc hv hm
            · exact absurd rfl hk
        · exact absurd rfl hk
      obtain ⟨val', hv', hm', hx⟩ := hs
      refine ⟨(Live.put h1 hc hv' hm' hx : Live (putW F c)), fun _ e => ?_⟩
      obtain ⟨x, hx, _⟩ := hx
      rw [e] at hx; cases hx
  · rw [if_neg hr]
    exact ⟨⟨h1, val, hv, hm⟩, fun h => absurd rfl h⟩
end Go.Proofs.YtcaoobdbgdldaaaGreatDoor.Fwd
