/- Part of the proof of TrimNumbers: what the law uses of the text UpB. -/
import Derived.Test.YtfljggodnnpeiaaZNUpA
namespace Go.Proofs.Ytfljggodnnpeiaa.Spr
open Go.RowKit Go.Proofs.Ytfljggodnnpeiaa.Lit

structure Inv (cls : List (List Int)) (F : List Int) (S : St) : Prop where
  good : Good S
  cl : S.clauses = cls
  kn : Known S
  inn : ∀ l, fm l = true → S.ids.contains (lv l) = true → inAt S l = occ cls l
  tv : ∀ l, fm l = true → (l ∈ S.trail ↔ vl S l = 1)
  nd : S.trail.Nodup
  snd : ∀ l ∈ S.trail, UP cls F l
  bad : S.bad ≠ -1 → Clash cls F

theorem Inv.put {cls : List (List Int)} {F : List Int} {S : St} (h : Inv cls F S) (l why : Int) (hl : fm l = true) (hu : UP cls F l) : Inv cls F (putSt S l why) := by
  obtain ⟨e1, e2, e3, e4, e5, e6, e7, _⟩ := putSt_fields S l why
  have hok := h.good.ok
  refine ⟨h.good.put l why hl, e1.trans h.cl, h.kn.put l why, ?_, ?_, ?_, ?_, fun hb => h.bad (by rw [← e5]; exact hb)⟩
  · intro x hx hk
    have he : inAt (putSt S l why) x = inAt (placeSt S l) x := by unfold inAt; rw [e6, e7]
    rw [he]
    by_cases hks : S.ids.contains (lv x) = true
    · rw [inAt_place hok.li l x hks]
      exact h.inn x hx hks
    · have hv : lv x = lv l := by
        rw [e6] at hk
        unfold placeSt at hk
        by_cases hkl : S.ids.contains (lv l) = true
        · rw [if_pos hkl] at hk; exact absurd hk hks
        · rw [if_neg hkl] at hk
          unfold newPlace at hk
          simp at hk hks
          exact hk.resolve_left hks
      rw [inAt_fresh hok.li l x hks hv]
      refine (occ_nil cls x fun c hc hm => hks ?_).symm
      exact h.kn c (by rw [h.cl]; exact hc) x hm
  · intro x hx
    rw [put_trail hok, vl_put hok l x why hl hx]
    by_cases h0 : vl S l = 0
    · rw [if_pos h0, if_pos h0, List.mem_append, List.mem_singleton]
      by_cases e : x = l
      · rw [if_pos e]; exact ⟨fun _ => rfl, fun _ => .inr e⟩
      · rw [if_neg e]
        by_cases e' : x = -l
        · rw [if_pos e']
          constructor
          · intro ht
            have h1 := (h.tv x hx).1 (ht.resolve_right e)
            rw [e', vl_neg S hl, h0] at h1
            exact absurd h1 (by decide)
          · intro hc; exact absurd hc (by decide)
        · rw [if_neg e']
          exact ⟨fun ht => (h.tv x hx).1 (ht.resolve_right e), fun hv => .inl ((h.tv x hx).2 hv)⟩
    · rw [if_neg h0, if_neg h0]; exact h.tv x hx
  · rw [put_trail hok]
    by_cases h0 : vl S l = 0
    · rw [if_pos h0, List.nodup_append]
      refine ⟨h.nd, by simp, fun a ha b hb e => ?_⟩
      have hb' : b = l := by simpa using hb
      have h1 := (h.tv l hl).1 (by rw [← hb', ← e]; exact ha)
      rw [h0] at h1
      exact absurd h1 (by decide)
    · rw [if_neg h0]; exact h.nd
  · intro x hx
    rw [put_trail hok] at hx
    split at hx
    · rcases List.mem_append.1 hx with hx | hx
      · exact h.snd x hx
      · rw [List.mem_singleton.1 hx]; exact hu
    · exact h.snd x hx
theorem put_sub {S : St} (h : Ok S) (l why : Int) : ∀ x ∈ S.trail, x ∈ (putSt S l why).trail := fun x hx => by
  rw [put_trail h]; split
  · exact List.mem_append_left _ hx
  · exact hx

def posN (D c : List Int) : Nat := (c.filter fun x => D.contains x).length
def opnN (D c : List Int) : Nat := (c.filter fun x => !D.contains (-x)).length
structure Cnt (cls : List (List Int)) (D : List Int) (S : St) : Prop where
  on : ∀ n, n < cls.length → S.on.getD n 0 = (posN D (cls.getD n []) : Int)
  opn : ∀ n, n < cls.length → S.opn.getD n 0 = (opnN D (cls.getD n []) : Int)
def Looked (D T c : List Int) : Prop := (∃ x ∈ c, x ∈ D) ∨ (∃ x ∈ c, ∃ y ∈ c, x ≠ y ∧ -x ∉ D ∧ -y ∉ D) ∨ ∃ l ∈ c, -l ∉ D ∧ (l ∈ T ∨ -l ∈ T)
theorem Looked.mono {D T T' c : List Int} (h : Looked D T c) (ht : ∀ x ∈ T, x ∈ T') : Looked D T' c := by
  rcases h with h | h | ⟨l, h1, h2, h3⟩
  · exact .inl h
  · exact .inr (.inl h)
  · exact .inr (.inr ⟨l, h1, h2, h3.imp (ht _) (ht _)⟩)

theorem posN_pos {D c : List Int} (h : 0 < posN D c) : ∃ x ∈ c, x ∈ D := by
  obtain ⟨x, hx⟩ := List.exists_mem_of_length_pos h
  obtain ⟨h1, h2⟩ := List.mem_filter.1 hx
  exact ⟨x, h1, by simpa using h2⟩
theorem two_of {l : List Int} (hn : l.Nodup) (h : 1 < l.length) : ∃ x ∈ l, ∃ y ∈ l, x ≠ y := by
  match l, h with
  | x :: y :: t, _ =>
    refine ⟨x, by simp, y, by simp, fun e => ?_⟩
    have := (List.nodup_cons.1 hn).1
    exact this (by rw [e]; simp)
theorem opnN_two {D c : List Int} (hn : c.Nodup) (h : 1 < opnN D c) : ∃ x ∈ c, ∃ y ∈ c, x ≠ y ∧ -x ∉ D ∧ -y ∉ D := by
  obtain ⟨x, hx, y, hy, hne⟩ := two_of (hn.filter _) h
  obtain ⟨h1, h2⟩ := List.mem_filter.1 hx
  obtain ⟨h3, h4⟩ := List.mem_filter.1 hy
  exact ⟨x, h1, y, h3, hne, by simpa using h2, by simpa using h4⟩
theorem opnN_zero {D c : List Int} (h : opnN D c = 0) : ∀ x ∈ c, -x ∈ D := fun x hx => by
  have he := List.eq_nil_of_length_eq_zero h
  have := List.filter_eq_nil_iff.1 he x hx
  simpa using this
theorem opnN_one {D c : List Int} (h : opnN D c = 1) : ∃ l ∈ c, -l ∉ D ∧ ∀ x ∈ c, x ≠ l → -x ∈ D := by
  obtain ⟨l, hl⟩ := List.length_eq_one_iff.1 h
  have hm : l ∈ c.filter (fun x => !D.contains (-x)) := by rw [hl]; simp
  obtain ⟨h1, h2⟩ := List.mem_filter.1 hm
  refine ⟨l, h1, by simpa using h2, fun x hx hne => ?_⟩
  by_cases hd : -x ∈ D
  · exact hd
  · have : x ∈ c.filter (fun x => !D.contains (-x)) := List.mem_filter.2 ⟨hx, by simpa using hd⟩
    rw [hl] at this
    exact absurd (List.mem_singleton.1 this) hne

theorem Inv.tneg {cls : List (List Int)} {F : List Int} {S : St} (h : Inv cls F S) {l : Int} (hl : fm l = true) : (-l ∈ S.trail ↔ vl S l = -1) := by
  rw [h.tv (-l) (fm_neg hl), vl_neg S hl]
  omega
theorem Inv.unit {cls : List (List Int)} {F : List Int} {S : St} (h : Inv cls F S) {D : List Int} (hD : ∀ x ∈ D, x ∈ S.trail) (n : Nat) (c : List Int) (hc : c ∈ cls) (h1 : opnN D c = 1) :
    Inv cls F (unitSt S n c) ∧ (∀ x ∈ S.trail, x ∈ (unitSt S n c).trail) ∧ Looked D (unitSt S n c).trail c := by
  obtain ⟨l, hl, hld, hoth⟩ := opnN_one h1
  have hfc : ∀ x ∈ c, fm x = true := fun x hx => h.good.cf c (by rw [h.cl]; exact hc) x hx
  have hfl := hfc l hl
  unfold unitSt
  cases hf : c.find? (fun l => decide (vl S l ≥ 0)) with
  | none =>
    dsimp only
    refine ⟨h, fun _ hx => hx, .inr (.inr ⟨l, hl, hld, .inr ?_⟩)⟩
    have := List.find?_eq_none.1 hf l hl
    have hv : ¬ vl S l ≥ 0 := by simpa using this
    rw [h.tneg hfl]
    rcases vl_cases h.good.ok l with e | e | e <;> omega
  | some m =>
    dsimp only
    have hm := List.mem_of_find?_eq_some hf
    have hv : vl S m ≥ 0 := by simpa using List.find?_some hf
    have hml : m = l := by
      by_cases e : m = l
      · exact e
      · have := (h.tneg (hfc m hm)).1 (hD _ (hoth m hm e))
        omega
    subst hml
    have hu : UP cls F m := .unit hc hm fun x hx hne => h.snd _ (hD _ (hoth x hx hne))
    refine ⟨h.put m n hfl hu, put_sub h.good.ok m n, .inr (.inr ⟨m, hm, hld, .inl ?_⟩)⟩
    rw [put_trail h.good.ok]
    by_cases h0 : vl S m = 0
    · rw [if_pos h0]; simp
    · rw [if_neg h0, h.tv m hfl]
      rcases vl_cases h.good.ok m with e | e | e <;> omega

theorem getD_mem {cls : List (List Int)} {n : Nat} (h : n < cls.length) : cls.getD n [] ∈ cls := by
  rw [List.getD_eq_getElem?_getD, List.getElem?_eq_getElem h]; exact List.getElem_mem h
theorem Inv.look {cls : List (List Int)} {F : List Int} {S : St} (h : Inv cls F S) (hnd : ∀ c ∈ cls, c.Nodup) {D : List Int} (hc : Cnt cls D S) (hD : ∀ x ∈ D, x ∈ S.trail) (n : Nat) (hn : n < cls.length) :
    Inv cls F (lookSt S n) ∧ Cnt cls D (lookSt S n) ∧ (∀ x ∈ S.trail, x ∈ (lookSt S n).trail) ∧ ((lookSt S n).bad = -1 → S.bad = -1 ∧ Looked D (lookSt S n).trail (cls.getD n [])) := by
  have hm := getD_mem hn
  obtain ⟨f1, f2, f3, f4⟩ := lookSt_fields S n
  have hC : Cnt cls D (lookSt S n) := ⟨fun k hk => by rw [f3]; exact hc.on k hk, fun k hk => by rw [f2]; exact hc.opn k hk⟩
  refine ⟨?_, hC, ?_⟩
  · unfold lookSt
    split
    · exact h
    · rename_i h1
      split
      · rename_i h2
        have h0 : opnN D (cls.getD n []) = 0 := by have := hc.opn n hn; omega
        refine ⟨?_, h.cl, h.kn, h.inn, h.tv, h.nd, h.snd, fun _ => .inr ⟨_, hm, fun x hx => h.snd _ (hD _ (opnN_zero h0 x hx))⟩⟩
        have := h.good.look n (by rw [h.cl]; exact hn)
        unfold lookSt at this
        rw [if_neg h1, if_pos h2] at this
        exact this
      · rename_i h2
        have h0 : opnN D (cls.getD n []) = 1 := by have := hc.opn n hn; omega
        rw [h.cl]
        exact (h.unit hD n _ hm h0).1
  · unfold lookSt
    split
    · rename_i h1
      refine ⟨fun _ hx => hx, fun hb => ⟨hb, ?_⟩⟩
      rw [hc.on n hn, hc.opn n hn] at h1
      rcases h1 with h1 | h1
      · exact .inl (posN_pos (by omega))
      · exact .inr (.inl (opnN_two (hnd _ hm) (by omega)))
    · rename_i h1
      split
      · refine ⟨fun _ hx => hx, fun hb => ?_⟩
        have hb : (n : Int) = -1 := hb
        omega
      · rename_i h2
        have h0 : opnN D (cls.getD n []) = 1 := by have := hc.opn n hn; omega
        rw [h.cl]
        obtain ⟨_, h3, h4⟩ := h.unit hD n _ hm h0
        refine ⟨h3, fun hb => ⟨?_, h4⟩⟩
        rw [← hb]
        unfold unitSt
        split
        · exact ((putSt_fields S _ _).2.2.2.2.1).symm
        · rfl

end Go.Proofs.Ytfljggodnnpeiaa.Spr
