/- Part of the proof of TrimNumbers: what the law uses of the text UpA. -/
import Derived.Test.YtfljggodnnpeiaaZNUD
namespace Go.Proofs.Ytfljggodnnpeiaa.Spr
open Go.RowKit Go.Proofs.Ytfljggodnnpeiaa.Lit

inductive UP (cls : List (List Int)) (F : List Int) : Int → Prop
  | fact {l : Int} : l ∈ F → UP cls F l
  | unit {c : List Int} {l : Int} : c ∈ cls → l ∈ c → (∀ x ∈ c, x ≠ l → UP cls F (-x)) → UP cls F l
def Clash (cls : List (List Int)) (F : List Int) : Prop := (∃ l, UP cls F l ∧ UP cls F (-l)) ∨ ∃ c ∈ cls, ∀ x ∈ c, UP cls F (-x)

theorem UP.mono {cls cls' : List (List Int)} {F F' : List Int} (hc : ∀ c ∈ cls, ∃ c' ∈ cls', ∀ x, x ∈ c ↔ x ∈ c') (hF : ∀ l ∈ F, l ∈ F') {l : Int} (h : UP cls F l) : UP cls' F' l := by
  induction h with
  | fact hl => exact .fact (hF _ hl)
  | unit h1 h2 _ ih =>
    obtain ⟨c', h3, h4⟩ := hc _ h1
    exact .unit h3 ((h4 _).1 h2) (fun x hx hne => ih x ((h4 x).2 hx) hne)
theorem Clash.mono {cls cls' : List (List Int)} {F F' : List Int} (hc : ∀ c ∈ cls, ∃ c' ∈ cls', ∀ x, x ∈ c ↔ x ∈ c') (hF : ∀ l ∈ F, l ∈ F') (h : Clash cls F) : Clash cls' F' := by
  rcases h with ⟨l, h1, h2⟩ | ⟨c, h1, h2⟩
  · exact .inl ⟨l, h1.mono hc hF, h2.mono hc hF⟩
  · obtain ⟨c', h3, h4⟩ := hc _ h1
    exact .inr ⟨c', h3, fun x hx => (h2 x ((h4 x).2 hx)).mono hc hF⟩

theorem fm_neg {l : Int} (h : fm l = true) : fm (-l) = true := by
  have := fm_true h
  exact decide_eq_true (by omega)
theorem vl_neg (S : St) {l : Int} (h : fm l = true) : vl S (-l) = -vl S l := by
  have hf := fm_true h
  unfold vl
  rw [lv_neg h]
  by_cases hk : S.ids.contains (lv l) = true
  · rw [if_pos hk, if_pos hk]
    by_cases h0 : l < 0
    · rw [if_neg (by omega), if_pos h0]; omega
    · rw [if_pos (by omega), if_neg h0]
  · rw [if_neg hk, if_neg hk]; rfl
theorem vl_place {S : St} (h : Ok S) (l x : Int) : vl (placeSt S l) x = vl S x := by
  unfold placeSt
  by_cases hk : S.ids.contains (lv l) = true
  · rw [if_pos hk]
  · rw [if_neg hk]
    unfold vl newPlace
    dsimp only
    by_cases hx : S.ids.contains (lv x) = true
    · have hx' : (S.ids ++ [lv l]).contains (lv x) = true := by simp at hx ⊢; exact .inl hx
      have hi : S.ids.idxOf (lv x) < S.value.length := by rw [h.lnv]; exact List.idxOf_lt_length_of_mem (by simpa using hx)
      rw [if_pos hx, if_pos hx', idx_app hx]
      rw [List.getD_eq_getElem?_getD, List.getElem?_append_left hi, ← List.getD_eq_getElem?_getD]
    · rw [if_neg hx]
      by_cases hx' : (S.ids ++ [lv l]).contains (lv x) = true
      · rw [if_pos hx']
        have hi : (S.ids ++ [lv l]).idxOf (lv x) = S.ids.length := by
          have hm : lv x ∉ S.ids := by simpa using hx
          have he : lv x = lv l := by simp at hx' hm; exact hx'.resolve_left hm
          rw [List.idxOf_append, if_neg hm, he]
          simp
        rw [hi, ← h.lnv]
        simp
      · rw [if_neg hx']
theorem lv_eq {l x : Int} (hl : fm l = true) (hx : fm x = true) (h : lv x = lv l) : x = l ∨ x = -l := by
  have h1 := fm_true hl
  have h2 := fm_true hx
  unfold lv at h
  rw [if_pos hl, if_pos hx] at h
  split at h <;> split at h <;> omega
theorem vl_putNew {S : St} (h : Ok S) (l x why : Int) (hl : fm l = true) (hx : fm x = true) (hk : S.ids.contains (lv l) = true) :
    vl (putNew S l why) x = if x = l then 1 else if x = -l then -1 else vl S x := by
  have h1 := fm_true hl
  have hi : S.ids.idxOf (lv l) < S.value.length := by rw [h.lnv]; exact List.idxOf_lt_length_of_mem (by simpa using hk)
  unfold vl putNew
  dsimp only
  by_cases he : lv x = lv l
  · rw [he, if_pos hk]
    have hg : (S.value.set (S.ids.idxOf (lv l)) (if l < 0 then -1 else 1)).getD (S.ids.idxOf (lv l)) 0 = (if l < 0 then -1 else 1) := by
      rw [List.getD_eq_getElem?_getD, List.getElem?_set_self hi]; rfl
    rw [hg]
    rcases lv_eq hl hx he with e | e
    · subst e
      rw [if_pos rfl]
      split <;> rfl
    · subst e
      have hne : ¬ (-l = l) := by omega
      rw [if_neg hne, if_pos rfl]
      by_cases h0 : l < 0
      · rw [if_neg (show ¬ (-l) < 0 by omega), if_pos h0]
      · rw [if_pos (show (-l) < 0 by omega), if_neg h0]
  · have n1 : x ≠ l := fun e => he (by rw [e])
    have n2 : x ≠ -l := fun e => he (by rw [e]; exact lv_neg hl)
    rw [if_neg n1, if_neg n2]
    by_cases hkx : S.ids.contains (lv x) = true
    · rw [if_pos hkx, if_pos hkx]
      have hne : S.ids.idxOf (lv l) ≠ S.ids.idxOf (lv x) := by
        intro e
        have hmx : lv x ∈ S.ids := by simpa using hkx
        have hml : lv l ∈ S.ids := by simpa using hk
        have a := List.getElem_idxOf (List.idxOf_lt_length_of_mem hmx)
        have b := List.getElem_idxOf (List.idxOf_lt_length_of_mem hml)
        exact he (by rw [← a, ← b]; congr 1; exact e.symm)
      rw [List.getD_eq_getElem?_getD, List.getElem?_set_ne hne, ← List.getD_eq_getElem?_getD]
    · rw [if_neg hkx, if_neg hkx]
theorem vl_put {S : St} (h : Ok S) (l x why : Int) (hl : fm l = true) (hx : fm x = true) :
    vl (putSt S l why) x = if vl S l = 0 then (if x = l then 1 else if x = -l then -1 else vl S x) else vl S x := by
  unfold putSt
  rw [vl_place h]
  by_cases h0 : vl S l = 0
  · rw [if_pos h0, if_pos h0, vl_putNew (h.place l) l x why hl hx (placeSt_has S l), vl_place h]
  · rw [if_neg h0, if_neg h0, vl_place h]
theorem put_trail {S : St} (h : Ok S) (l why : Int) : (putSt S l why).trail = if vl S l = 0 then S.trail ++ [l] else S.trail := by
  unfold putSt
  rw [vl_place h]
  have ht : (placeSt S l).trail = S.trail := (placeSt_fields S l).2.2.2.1
  split
  · exact congrArg (· ++ [l]) ht
  · exact ht

end Go.Proofs.Ytfljggodnnpeiaa.Spr
