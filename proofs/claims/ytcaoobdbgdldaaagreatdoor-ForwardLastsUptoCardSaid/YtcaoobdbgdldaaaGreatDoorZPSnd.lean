/- Part of the proof of ForwardLasts: what the law uses of the text Snd. -/
import Derived.Test.YtcaoobdbgdldaaaGreatDoorZPJFollows
import Derived.Test.YtcaoobdbgdldaaaGreatDoorZPJMeet
namespace Go.Proofs.YtcaoobdbgdldaaaGreatDoor.Fwd
open Go.RowKit Go.Proofs.YtcaoobdbgdldaaaGreatDoor.Lit Go.Proofs.YtcaoobdbgdldaaaGreatDoor.Spr
set_option linter.unusedVariables false
set_option linter.unusedSimpArgs false

theorem m_negL {c : List Int} {x : Int} : x ∈ negL c ↔ -x ∈ c := by
  unfold negL
  rw [List.mem_map]
  constructor
  · rintro ⟨y, hy, rfl⟩; rwa [Int.neg_neg]
  · intro h; exact ⟨-x, h, Int.neg_neg x⟩
theorem m_join {a b : List Int} {x : Int} : x ∈ joinL a b ↔ (x ∈ a ∨ x ∈ b) ∧ fm x = true := by
  unfold joinL; rw [mem_tidy, List.mem_append]
theorem m_without {c : List Int} {l x : Int} : x ∈ withoutL c l ↔ x ∈ c ∧ fm x = true ∧ x ≠ l := by
  unfold withoutL dropL
  rw [List.mem_filter, mem_tidy]
  simp only [Bool.not_eq_true', decide_eq_false_iff_not]
  exact ⟨fun h => ⟨h.1.1, h.1.2, h.2⟩, fun h => ⟨⟨h.1, h.2.1⟩, h.2.2⟩⟩
theorem m_has {d : List Int} {l : Int} : hasB d l = true ↔ fm l = true ∧ l ∈ d := by
  unfold hasB
  rw [Bool.and_eq_true, List.contains_iff_mem]

def Proper (val : Int → Bool) : Prop := ∀ x, x ≠ 0 → val (-x) = !val x
def Mod (val : Int → Bool) (cs : List (List Int)) : Prop := ∀ c ∈ cs, ∃ x ∈ c, val x = true
theorem fm_ne {x : Int} (h : fm x = true) : x ≠ 0 := (fm_true h).1
theorem vup {cs : List (List Int)} {F : List Int} {val : Int → Bool} (hv : Proper val) (hF : ∀ l ∈ F, val l = true) (h0 : ∀ c ∈ cs, ∀ x ∈ c, x ≠ 0) (hc : Mod val cs) {l : Int} (h : UP cs F l) : val l = true := by
  induction h with
  | fact hl => exact hF _ hl
  | @unit c l h1 h2 _ ih =>
    obtain ⟨x, hx, hb⟩ := hc c h1
    by_cases e : x = l
    · rw [← e]; exact hb
    · have := ih x hx e
      rw [hv x (h0 c h1 x hx), hb] at this
      exact absurd this (by decide)
theorem vclash {cs : List (List Int)} {F : List Int} {val : Int → Bool} (hv : Proper val) (hF : ∀ l ∈ F, val l = true) (hF0 : ∀ l ∈ F, l ≠ 0) (h0 : ∀ c ∈ cs, ∀ x ∈ c, x ≠ 0) (hc : Mod val cs) : ¬ Clash cs F := by
  rintro (⟨l, h1, h2⟩ | ⟨c, h1, h2⟩)
  · have a := vup hv hF h0 hc h1
    have b := vup hv hF h0 hc h2
    rw [hv l (h1.of (P := (· ≠ 0)) hF0 h0), a] at b
    exact absurd b (by decide)
  · obtain ⟨x, hx, hb⟩ := hc c h1
    have b := vup hv hF h0 hc (h2 x hx)
    rw [hv x (h0 c h1 x hx), hb] at b
    exact absurd b (by decide)

theorem follows_clash {v : Int} {cs : List (List Int)} {c : List Int} (h : followsR v cs c = true) (hcs : ∀ d ∈ cs, ∀ x ∈ d, fm x = true) (hc : ∀ x ∈ c, fm x = true) : Clash cs (negL c) := by
  unfold followsR closeR at h
  split at h
  · split at h
    · simp at h
    · rename_i hy
      refine (closed_up cs (negL c) (fun x hx => ?_) hcs).2 (Bool.eq_false_iff.2 hy)
      have := fm_neg (hc _ (m_negL.1 hx))
      rwa [Int.neg_neg] at this
  · simp at h
theorem follows_sound {v : Int} {cs : List (List Int)} {c : List Int} {val : Int → Bool} (h : followsR v cs c = true) (hcs : ∀ d ∈ cs, ∀ x ∈ d, fm x = true) (hc : ∀ x ∈ c, fm x = true) (hv : Proper val) (hm : Mod val cs) : ∃ x ∈ c, val x = true := by
  refine Classical.byContradiction fun hn => vclash hv (F := negL c) (fun l hl => ?_) (fun l hl => ?_) (fun d hd x hx => fm_ne (hcs d hd x hx)) hm (follows_clash h hcs hc)
  · have h1 := m_negL.1 hl
    have h2 : val (-l) = false := Bool.eq_false_iff.2 fun e => hn ⟨_, h1, e⟩
    have h3 := hv (-l) (fm_ne (hc _ h1))
    rw [Int.neg_neg, h2] at h3
    exact h3
  · have := fm_ne (hc _ (m_negL.1 hl)); omega

def flip (val : Int → Bool) (p x : Int) : Bool := if x = p then true else (if x = -p then false else val x)
theorem flip_proper {val : Int → Bool} (hv : Proper val) {p : Int} (hp : p ≠ 0) : Proper (flip val p) := by
  intro x hx
  unfold flip
  by_cases h1 : x = p
  · subst h1
    rw [if_neg (by omega), if_pos rfl, if_pos rfl]; rfl
  · by_cases h2 : x = -p
    · subst h2
      rw [Int.neg_neg, if_pos rfl, if_neg h1, if_pos rfl]; rfl
    · rw [if_neg (by omega), if_neg (by omega), if_neg h1, if_neg h2]
      exact hv x hx
theorem safe_sound {v : Int} {cs : List (List Int)} {c : List Int} {val : Int → Bool} (h : safeR v cs c = true) (hcs : ∀ d ∈ cs, ∀ x ∈ d, fm x = true) (hc : ∀ x ∈ c, fm x = true) (hv : Proper val) (hm : Mod val cs) : ∃ val', Proper val' ∧ Mod val' cs ∧ ∃ x ∈ c, val' x = true := by
  by_cases hs : ∃ x ∈ c, val x = true
  · exact ⟨val, hv, hm, hs⟩
  · unfold safeR at h
    rw [Bool.and_eq_true, decide_eq_true_eq] at h
    obtain ⟨hl, ha⟩ := h
    have hpm : c.getD 0 0 ∈ c := by rw [List.getD_eq_getElem?_getD, List.getElem?_eq_getElem hl]; exact List.getElem_mem _
    generalize c.getD 0 0 = p at *
    have hp0 := fm_ne (hc p hpm)
    have hpf : val p = false := Bool.eq_false_iff.2 fun e => hs ⟨p, hpm, e⟩
    refine ⟨flip val p, flip_proper hv hp0, fun d hd => ?_, p, hpm, by unfold flip; rw [if_pos rfl]⟩
    have hpart := List.all_eq_true.1 ha d hd
    unfold partB at hpart
    rw [Bool.or_eq_true, Bool.not_eq_true'] at hpart
    by_cases hn : -p ∈ d
    · have hb : hasB d (-p) = true := m_has.2 ⟨fm_neg (hc p hpm), hn⟩
      have hf := hpart.resolve_left (by rw [hb]; decide)
      obtain ⟨y, hy, hyt⟩ := follows_sound hf hcs (fun x hx => (m_join.1 hx).2) hv hm
      rcases (m_join.1 hy).1 with e | e
      · exact absurd ⟨y, e, hyt⟩ hs
      · obtain ⟨h1, _, h3⟩ := m_without.1 e
        refine ⟨y, h1, ?_⟩
        unfold flip
        by_cases h4 : y = p
        · rw [if_pos h4]
        · rw [if_neg h4, if_neg h3]; exact hyt
    · obtain ⟨y, hy, hyt⟩ := hm d hd
      refine ⟨y, hy, ?_⟩
      unfold flip
      by_cases h4 : y = p
      · rw [if_pos h4]
      · rw [if_neg h4, if_neg (fun e => hn (by rw [← e]; exact hy))]; exact hyt

end Go.Proofs.YtcaoobdbgdldaaaGreatDoor.Fwd
