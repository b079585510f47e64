/- Part of the proof of TrimRight: what the law uses of the text RefB. -/
import Derived.Test.YtfljggodnnpeiaaZRRefA
import Derived.Test.YtfljggodnnpeiaaZRJP12
namespace Go.Proofs.Ytfljggodnnpeiaa.Rf
open Go.RowKit Go.Proofs.Ytfljggodnnpeiaa.P Go.Proofs.Ytfljggodnnpeiaa.Lit Go.Proofs.Ytfljggodnnpeiaa.Spr Go.Proofs.YtfljggodnnpeiaaW.PrintWords Go.Proofs.YtfljggodnnpeiaaW.PrintLast

theorem lv_of {l : Int} (h : fm l = true) : lv l = if l < 0 then -l else l := by unfold lv; rw [if_pos h]
theorem wrap_neg {x : Int} (h : -1048576 ≤ x) (h2 : x ≤ 1048576) : wrap64 (-x) = -x := by unfold wrap64; omega

theorem greatest_l (c : List Int) (hf : ∀ x ∈ c, fm x = true) (hl : c.length < 9223372036854775807) : ∀ (d n : Nat) (a : Int), c.length - n = d → n ≤ c.length → 0 ≤ a → a ≤ 1048576 →
    ∃ r, Ev (fun k => depotref06_greatest.l0 k c a (n : Int)) r ∧ a ≤ r ∧ r ≤ 1048576 ∧ ∀ x ∈ c.drop n, lv x ≤ r := by
  intro d
  induction d with
  | zero =>
    intro n a hd hn h0 h1
    have : c.drop n = [] := List.drop_eq_nil_of_le (by omega)
    refine ⟨a, Ev.step (f := fun _ => some a) (fun k => ?_) (Ev.now _), by omega, h1, by rw [this]; simp⟩
    simp only [depotref06_greatest.l0]
    rw [if_neg (by omega)]
  | succ d ih =>
    intro n a hd hn h0 h1
    have hlt : n < c.length := by omega
    have hx := hf _ (get_mem 0 hlt)
    have hx2 := fm_true hx
    have hlv := lv_of hx
    have hd2 := drop_get 0 hlt
    generalize hg : c.getD n 0 = x at *
    have hw := wrap_neg hx2.2.1 hx2.2.2
    obtain ⟨r, h2, h3, h4, h5⟩ := ih (n + 1) (if a < lv x then lv x else a) (by omega) (by omega) (by split <;> omega) (by split <;> (try split at hlv) <;> omega)
    refine ⟨r, Ev.step (fun k => ?_) h2, by split at h3 <;> omega, h4, fun y hy => ?_⟩
    · simp only [depotref06_greatest.l0]
      rw [if_pos (by omega), if_pos (by omega), rd_nat, hg, hw, wrap_nat (by omega)]
      by_cases e1 : x > a
      · rw [if_pos e1, if_neg (by omega)]
        congr 1
        split at hlv <;> split <;> omega
      · rw [if_neg e1]
        by_cases e2 : -x > a
        · rw [if_pos e2]
          congr 1
          split at hlv <;> split <;> omega
        · rw [if_neg e2]
          congr 1
          split at hlv <;> split <;> omega
    · rw [hd2] at hy
      rcases List.mem_cons.1 hy with e | hy
      · rw [e]; split at h3 <;> omega
      · exact h5 y hy
theorem greatest (c : List Int) (a : Int) (hf : ∀ x ∈ c, fm x = true) (hl : c.length < 9223372036854775807) (h0 : 0 ≤ a) (h1 : a ≤ 1048576) : ∃ r, Ev (fun k => depotref06_greatest.f k c a) r ∧ a ≤ r ∧ r ≤ 1048576 ∧ ∀ x ∈ c, lv x ≤ r := by
  simpa [depotref06_greatest.f] using greatest_l c hf hl _ 0 a rfl (by omega) h0 h1
theorem values_l (v : Int) (cs : List (List Int)) (hf : ∀ c ∈ cs, ∀ x ∈ c, fm x = true) (hl : cs.length < 9223372036854775807) (h8 : ∀ c ∈ cs, c.length < 9223372036854775807) : ∀ (d n : Nat) (a : Int), cs.length - n = d → n ≤ cs.length → 0 ≤ a → a ≤ 1048576 →
    ∃ m : Nat, Ev (fun k => depotref06_Values.l0 k a (n : Int) v cs) (List.replicate (m + 1) 0) ∧ a ≤ m ∧ m ≤ 1048576 ∧ ∀ c ∈ cs.drop n, ∀ x ∈ c, lv x ≤ m := by
  intro d
  induction d with
  | zero =>
    intro n a hd hn h0 h1
    have : cs.drop n = [] := List.drop_eq_nil_of_le (by omega)
    have hw : wrap64 (a + 1) = a + 1 := by unfold wrap64; omega
    refine ⟨a.toNat, Ev.step (f := fun _ => some (List.replicate (a.toNat + 1) 0)) (fun k => ?_) (Ev.now _), by omega, by omega, by rw [this]; simp⟩
    simp only [depotref06_Values.l0]
    rw [if_neg (by omega), hw, if_pos (by omega), if_pos (by omega)]
    congr 2
    omega
  | succ d ih =>
    intro n a hd hn h0 h1
    have hlt : n < cs.length := by omega
    have hm := get_mem [] hlt
    obtain ⟨g, g1, g2, g3, g4⟩ := greatest (cs.getD n []) a (hf _ hm) (h8 _ hm) h0 h1
    obtain ⟨m, h2, h3, h4, h5⟩ := ih (n + 1) g (by omega) (by omega) (by omega) g3
    refine ⟨m, Ev.step (fun k => ?_) (Ev.bind g1 (f := fun k t => depotref06_Values.l0 k t ((n + 1 : Nat) : Int) v cs) h2), by omega, h4, fun c hc x hx => ?_⟩
    · simp only [depotref06_Values.l0]
      rw [if_pos (by omega), if_pos (by omega), rdL_nat, wrap_nat (by omega)]
    · rw [drop_get [] hlt] at hc
      rcases List.mem_cons.1 hc with e | hc
      · rw [e] at hx; have := g4 x hx; omega
      · exact h5 c hc x hx
theorem values (v : Int) (cs : List (List Int)) (F : List Int) (hf : ∀ c ∈ cs, ∀ x ∈ c, fm x = true) (hF : ∀ x ∈ F, fm x = true) (hl : cs.length < 9223372036854775807) (h8 : ∀ c ∈ cs, c.length < 9223372036854775807) (hFl : F.length < 9223372036854775807) :
    ∃ m : Nat, Ev (fun k => depotref06_Values.f k v cs F) (List.replicate (m + 1) 0) ∧ m ≤ 1048576 ∧ (∀ c ∈ cs, ∀ x ∈ c, lv x ≤ m) ∧ ∀ x ∈ F, lv x ≤ m := by
  obtain ⟨g, g1, g2, g3, g4⟩ := greatest F 0 hF hFl (by omega) (by omega)
  obtain ⟨m, h2, h3, h4, h5⟩ := values_l v cs hf hl h8 _ 0 g rfl (by omega) g2 g3
  refine ⟨m, ?_, h4, by simpa using h5, fun x hx => by have := g4 x hx; omega⟩
  unfold depotref06_Values.f
  exact Ev.bind g1 h2

def vv (a : List Int) (l : Int) : Int := if lv l < a.length then (if l < 0 then -(a.getD (lv l).toNat 0) else a.getD (lv l).toNat 0) else 0
structure Vs (a : List Int) : Prop where
  len : a.length ≤ 1048577
  rng : ∀ i, -1 ≤ a.getD i 0 ∧ a.getD i 0 ≤ 1
theorem value (a : List Int) (ha : Vs a) (l : Int) (hl : fm l = true) : depotref06_Value.f a l = some (vv a l) := by
  have h1 := fm_true hl
  have hlv := lv_of hl
  have hw := wrap_neg h1.2.1 h1.2.2
  unfold depotref06_Value.f vv
  by_cases h0 : l < 0
  · rw [if_pos h0] at hlv
    have hr := ha.rng (-l).toNat
    have hw2 : wrap64 (-(a.getD (-l).toNat 0)) = -(a.getD (-l).toNat 0) := wrap_neg (by omega) (by omega)
    rw [if_pos h0, hw, hlv]
    by_cases h2 : -l < (a.length : Int)
    · rw [if_pos h2, if_pos (by omega), if_pos h2, if_pos h0]
      unfold rd
      rw [hw2]
    · rw [if_neg h2, if_neg h2]
  · rw [if_neg h0] at hlv
    rw [if_neg h0, hlv]
    by_cases h2 : l < (a.length : Int)
    · rw [if_pos h2, if_pos (by omega), if_pos h2, if_neg h0]; rfl
    · rw [if_neg h2, if_neg h2]
theorem vv_neg (a : List Int) {l : Int} (hl : fm l = true) : vv a (-l) = -vv a l := by
  have h1 := fm_true hl
  unfold vv
  rw [lv_neg hl]
  split
  · by_cases h0 : l < 0
    · rw [if_neg (by omega), if_pos h0]; omega
    · rw [if_pos (by omega), if_neg h0]
  · rfl
theorem vv_cases {a : List Int} (ha : Vs a) (l : Int) : vv a l = 1 ∨ vv a l = -1 ∨ vv a l = 0 := by
  unfold vv
  have := ha.rng (lv l).toNat
  split
  · split <;> omega
  · omega
def putV (a : List Int) (l : Int) : List Int := a.set (lv l).toNat (if l < 0 then -1 else 1)
theorem put_v (a : List Int) (l : Int) (hl : fm l = true) (hin : lv l < a.length) : Ev (fun k => depotref06_Put.f k a l) (putV a l) := by
  have h1 := fm_true hl
  have hlv := lv_of hl
  have hw := wrap_neg h1.2.1 h1.2.2
  unfold depotref06_Put.f putV
  by_cases h0 : l < 0
  · rw [if_pos h0] at hlv
    refine Ev.step (f := fun _ => some (a.set (lv l).toNat (if l < 0 then -1 else 1))) (fun k => ?_) (Ev.now _)
    rw [if_pos h0, hw, decide_eq_true (by omega)]
    simp only [depotref06_Put.j0]
    rw [if_pos trivial, hw, if_pos (by omega), if_pos (by omega), Option.bind_some, if_neg (by omega), hlv, if_pos h0]
  · rw [if_neg h0] at hlv
    refine Ev.step (f := fun _ => some (a.set (lv l).toNat (if l < 0 then -1 else 1))) (fun k => ?_) (Ev.now _)
    rw [if_neg h0]
    simp only [depotref06_Put.j0]
    rw [if_neg (by decide), if_pos (by omega), if_pos (by omega), if_pos (by omega), hlv, if_neg h0]
theorem putV_vs {a : List Int} (ha : Vs a) (l : Int) : Vs (putV a l) := by
  refine ⟨by unfold putV; rw [List.length_set]; exact ha.len, fun i => ?_⟩
  unfold putV
  rw [List.getD_eq_getElem?_getD, List.getElem?_set]
  split
  · split
    · split <;> simp
    · simp
  · have := ha.rng i
    rw [List.getD_eq_getElem?_getD] at this
    exact this
theorem vv_put {a : List Int} {l x : Int} (hl : fm l = true) (hx : fm x = true) (hin : lv l < a.length) : vv (putV a l) x = if x = l then 1 else if x = -l then -1 else vv a x := by
  have h1 := fm_true hl
  have h2 := fm_true hx
  have hp := lv_pos hl
  unfold vv putV
  rw [List.length_set]
  by_cases he : lv x = lv l
  · rw [he, if_pos hin, List.getD_eq_getElem?_getD, List.getElem?_set_self (by omega), Option.getD_some]
    rcases lv_eq hl hx he with e | e
    · subst e
      rw [if_pos rfl]
      split <;> rfl
    · subst e
      have hne : ¬ (-l = l) := by omega
      rw [if_neg hne, if_pos rfl]
      by_cases h0 : l < 0
      · rw [if_neg (show ¬ (-l) < 0 by omega), if_pos h0]
      · rw [if_pos (show (-l) < 0 by omega), if_neg h0]
  · have n1 : x ≠ l := fun e => he (by rw [e])
    have n2 : x ≠ -l := fun e => he (by rw [e]; exact lv_neg hl)
    have hp2 := lv_pos hx
    rw [if_neg n1, if_neg n2, List.getD_eq_getElem?_getD, List.getElem?_set_ne (by omega), ← List.getD_eq_getElem?_getD]

def StandsOk (a : List Int) (c : List Int) (r : Int × Int) : Prop :=
  (r.1 = 1 ∧ ∃ x ∈ c, vv a x = 1) ∨ (r.1 = 0 ∧ ∃ x ∈ c, ∃ y ∈ c, x ≠ y ∧ vv a x = 0 ∧ vv a y = 0) ∨ (r.1 = 2 ∧ ∀ x ∈ c, vv a x = -1) ∨ (r.1 = 3 ∧ r.2 ∈ c ∧ vv a r.2 = 0 ∧ ∀ x ∈ c, x ≠ r.2 → vv a x = -1)
theorem stands_l (a : List Int) (ha : Vs a) (c : List Int) (hf : ∀ x ∈ c, fm x = true) (hl : c.length < 9223372036854775807) : ∀ (d n : Nat) (o : Int), c.length - n = d → n ≤ c.length →
    ((o = 0 ∧ ∀ x ∈ c.take n, vv a x = -1) ∨ (o ∈ c ∧ vv a o = 0 ∧ ∀ x ∈ c.take n, x ≠ o → vv a x = -1)) →
    ∃ r, Ev (fun k => depotref06_Stands.l0 k c a o (n : Int)) r ∧ StandsOk a c r := by
  intro d
  induction d with
  | zero =>
    intro n o hd hn ho
    have ht : c.take n = c := List.take_of_length_le (by omega)
    rw [ht] at ho
    by_cases e : o = 0
    · refine ⟨(2, 0), Ev.step (f := fun _ => some (2, 0)) (fun k => ?_) (Ev.now _), .inr (.inr (.inl ⟨rfl, ?_⟩))⟩
      · simp only [depotref06_Stands.l0]
        rw [if_neg (by omega), if_pos e]
      · rcases ho with ho | ho
        · exact ho.2
        · have := fm_true (hf o ho.1); omega
    · refine ⟨(3, o), Ev.step (f := fun _ => some (3, o)) (fun k => ?_) (Ev.now _), .inr (.inr (.inr ⟨rfl, ?_⟩))⟩
      · simp only [depotref06_Stands.l0]
        rw [if_neg (by omega), if_neg e]
      · rcases ho with ho | ho
        · exact absurd ho.1 e
        · exact ho
  | succ d ih =>
    intro n o hd hn ho
    have hlt : n < c.length := by omega
    have hm := get_mem 0 hlt
    have hx := hf _ hm
    have hv := value a ha _ hx
    have ht : c.take (n + 1) = c.take n ++ [c.getD n 0] := by
      rw [List.take_succ_eq_append_getElem hlt, List.getD_eq_getElem?_getD, List.getElem?_eq_getElem hlt]; rfl
    have ih1 := ih (n + 1)
    rw [ht] at ih1
    generalize hg : c.getD n 0 = x at *
    have hx0 := (fm_true hx).1
    rcases vv_cases ha x with e | e | e
    · refine ⟨(1, 0), Ev.step (f := fun _ => some (1, 0)) (fun k => ?_) (Ev.now _), .inl ⟨rfl, x, hm, e⟩⟩
      simp only [depotref06_Stands.l0]
      rw [if_pos (by omega), if_pos (by omega), rd_nat, hg, hv, e, Option.bind_some, if_pos rfl]
    · obtain ⟨r, h1, h2⟩ := ih1 o (by omega) (by omega) (by
        rcases ho with ho | ho
        · refine .inl ⟨ho.1, fun y hy => ?_⟩
          rcases List.mem_append.1 hy with hy | hy
          · exact ho.2 y hy
          · rw [List.mem_singleton.1 hy]; exact e
        · refine .inr ⟨ho.1, ho.2.1, fun y hy hne => ?_⟩
          rcases List.mem_append.1 hy with hy | hy
          · exact ho.2.2 y hy hne
          · rw [List.mem_singleton.1 hy]; exact e)
      refine ⟨r, Ev.step (f := fun k => depotref06_Stands.j1 k c a o (n : Int) (-1) false) (fun k => ?_) (Ev.step (fun k => ?_) h1), h2⟩
      · simp only [depotref06_Stands.l0]
        rw [if_pos (by omega), if_pos (by omega), rd_nat, hg, hv, e, Option.bind_some, if_neg (by decide), if_neg (by decide)]
      · simp only [depotref06_Stands.j1]
        rw [if_neg (by decide), if_neg (by decide), wrap_nat (by omega)]
    · have hgo : (o = 0 ∨ o = x) → ∃ r, Ev (fun k => depotref06_Stands.l0 k c a o (n : Int)) r ∧ StandsOk a c r := by
        intro hox
        obtain ⟨r, h1, h2⟩ := ih1 x (by omega) (by omega) (.inr ⟨hm, e, fun y hy hne => by
          rcases List.mem_append.1 hy with hy | hy
          · rcases ho with ho | ho
            · exact ho.2 y hy
            · rcases hox with h0 | h0
              · have := (fm_true (hf o ho.1)).1; omega
              · exact ho.2.2 y hy (by rw [h0]; exact hne)
          · exact absurd (List.mem_singleton.1 hy) hne⟩)
        refine ⟨r, Ev.step (f := fun k => depotref06_Stands.j1 k c a o (n : Int) 0 false) (fun k => ?_) (Ev.step (fun k => ?_) h1), h2⟩
        · simp only [depotref06_Stands.l0]
          rw [if_pos (by omega), if_pos (by omega), rd_nat, hg, hv, e, Option.bind_some, if_neg (by decide), if_pos rfl]
          rcases hox with h0 | h0
          · rw [if_pos h0]
          · by_cases hz : o = 0
            · rw [if_pos hz]
            · rw [if_neg hz, bne_eq_false_iff_eq.2 h0]
        · simp only [depotref06_Stands.j1]
          rw [if_neg (by decide), if_pos trivial, if_pos (by omega), if_pos (by omega), rd_nat, hg, wrap_nat (by omega)]
      by_cases h0 : o = 0
      · exact hgo (.inl h0)
      · by_cases h1 : o = x
        · exact hgo (.inr h1)
        · refine ⟨(0, 0), Ev.step (f := fun k => depotref06_Stands.j1 k c a o (n : Int) 0 true) (fun k => ?_) (Ev.step (f := fun _ => some (0, 0)) (fun k => ?_) (Ev.now _)), .inr (.inl ⟨rfl, ?_⟩)⟩
          · simp only [depotref06_Stands.l0]
            rw [if_pos (by omega), if_pos (by omega), rd_nat, hg, hv, e, Option.bind_some, if_neg (by decide), if_pos rfl, if_neg h0, bne_iff_ne.2 h1]
          · simp only [depotref06_Stands.j1]
            rw [if_pos trivial]
          · rcases ho with ho | ho
            · exact absurd ho.1 h0
            · exact ⟨o, ho.1, x, hm, h1, ho.2.1, e⟩
theorem stands (a : List Int) (ha : Vs a) (c : List Int) (hf : ∀ x ∈ c, fm x = true) (hl : c.length < 9223372036854775807) : ∃ r, Ev (fun k => depotref06_Stands.f k c a) r ∧ StandsOk a c r := by
  simpa [depotref06_Stands.f] using stands_l a ha c hf hl _ 0 0 rfl (by omega) (.inl ⟨rfl, by simp⟩)

end Go.Proofs.Ytfljggodnnpeiaa.Rf
