/- Part of the proof of TrimRight: what the law uses of the text RefC. -/
import Derived.Test.YtfljggodnnpeiaaZRRefB
import Derived.Test.YtfljggodnnpeiaaZRJJoin
namespace Go.Proofs.Ytfljggodnnpeiaa.Rf
open Go.RowKit Go.Proofs.Ytfljggodnnpeiaa.P Go.Proofs.Ytfljggodnnpeiaa.Lit Go.Proofs.Ytfljggodnnpeiaa.Spr Go.Proofs.YtfljggodnnpeiaaW.PrintWords Go.Proofs.YtfljggodnnpeiaaW.PrintLast

structure RI (cs : List (List Int)) (F : List Int) (a : List Int) : Prop where
  vs : Vs a
  rc : ∀ c ∈ cs, ∀ x ∈ c, lv x < a.length
  rf : ∀ x ∈ F, lv x < a.length
  snd : ∀ l, fm l = true → vv a l = 1 → UP cs F l
theorem RI.put {cs : List (List Int)} {F a : List Int} (h : RI cs F a) {l : Int} (hl : fm l = true) (hin : lv l < a.length) (hu : UP cs F l) : RI cs F (putV a l) := by
  have he : (putV a l).length = a.length := by unfold putV; rw [List.length_set]
  refine ⟨putV_vs h.vs l, by rw [he]; exact h.rc, by rw [he]; exact h.rf, fun x hx hv => ?_⟩
  rw [vv_put hl hx hin] at hv
  by_cases e : x = l
  · rw [e]; exact hu
  · rw [if_neg e] at hv
    by_cases e2 : x = -l
    · rw [if_pos e2] at hv; exact absurd hv (by decide)
    · rw [if_neg e2] at hv; exact h.snd x hx hv

theorem given_l (cs : List (List Int)) (F : List Int) (hF : ∀ x ∈ F, fm x = true) (hl : F.length < 9223372036854775807) : ∀ (d n : Nat) (a : List Int), F.length - n = d → n ≤ F.length → RI cs F a → (∀ x ∈ F.take n, vv a x = 1) →
    ∃ r, Ev (fun k => depotref06_given.l0 k F a (n : Int)) r ∧ RI cs F r.1 ∧ (r.2 = true → ∀ x ∈ F, vv r.1 x = 1) ∧ (r.2 = false → Clash cs F) := by
  intro d
  induction d with
  | zero =>
    intro n a hd hn hi ht
    rw [List.take_of_length_le (by omega)] at ht
    refine ⟨(a, true), Ev.step (f := fun _ => some (a, true)) (fun k => ?_) (Ev.now _), hi, fun _ => ht, fun h => by cases h⟩
    simp only [depotref06_given.l0]
    rw [if_neg (by omega)]
  | succ d ih =>
    intro n a hd hn hi ht
    have hlt : n < F.length := by omega
    have hm := get_mem 0 hlt
    have hx := hF _ hm
    have hv := value a hi.vs _ hx
    have htk := take_one hlt
    have ih1 := ih (n + 1)
    rw [htk] at ih1
    generalize hg : F.getD n 0 = x at *
    by_cases e : vv a x = -1
    · refine ⟨(a, false), Ev.step (f := fun _ => some (a, false)) (fun k => ?_) (Ev.now _), hi, (fun h => by cases h), fun _ => .inl ⟨x, .fact hm, hi.snd _ (fm_neg hx) (by rw [vv_neg a hx, e]; rfl)⟩⟩
      simp only [depotref06_given.l0]
      rw [if_pos (by omega), if_pos (by omega), rd_nat, hg, hv, e, Option.bind_some, if_pos rfl]
    · obtain ⟨r, h1, h2⟩ := ih1 (putV a x) (by omega) (by omega) (hi.put hx (hi.rf x hm) (.fact hm)) (fun y hy => by
        rcases List.mem_append.1 hy with hy | hy
        · have hyF := List.mem_of_mem_take hy
          rw [vv_put hx (hF y hyF) (hi.rf x hm)]
          by_cases e1 : y = x
          · rw [if_pos e1]
          · rw [if_neg e1]
            by_cases e2 : y = -x
            · have h3 := ht y hy
              rw [e2, vv_neg a hx] at h3
              omega
            · rw [if_neg e2]; exact ht y hy
        · rw [List.mem_singleton.1 hy, vv_put hx hx (hi.rf x hm), if_pos rfl])
      refine ⟨r, Ev.step (fun k => ?_) (Ev.bind (put_v a x hx (hi.rf x hm)) (f := fun k t => depotref06_given.l0 k F t ((n + 1 : Nat) : Int)) h1), h2⟩
      simp only [depotref06_given.l0]
      rw [if_pos (by omega), if_pos (by omega), rd_nat, hg, hv, Option.bind_some, if_neg e, wrap_nat (by omega)]

def zeros (a : List Int) : Nat := (a.filter (· == 0)).length
theorem zeros_le (a : List Int) : zeros a ≤ a.length := List.length_filter_le _ _
theorem zeros_set : ∀ (a : List Int) (n : Nat) (x : Int), n < a.length → a.getD n 0 = 0 → x ≠ 0 → zeros (a.set n x) + 1 = zeros a
  | [], n, x, h, _, _ => absurd h (by simp)
  | y :: t, 0, x, _, h0, hx => by
    have hy : y = 0 := by simpa using h0
    subst hy
    unfold zeros
    rw [List.set_cons_zero, List.filter_cons_of_neg (by simpa using hx), List.filter_cons_of_pos (by simp)]
    rfl
  | y :: t, n + 1, x, h, h0, hx => by
    have ih := zeros_set t n x (by simpa using h) (by simpa using h0) hx
    unfold zeros at *
    rw [List.set_cons_succ]
    by_cases hy : (y == 0) = true
    · rw [List.filter_cons_of_pos (by exact hy), List.filter_cons_of_pos (by exact hy), List.length_cons, List.length_cons, ih]
    · rw [List.filter_cons_of_neg (by exact hy), List.filter_cons_of_neg (by exact hy), ih]
theorem zeros_put {a : List Int} {l : Int} (hl : fm l = true) (hin : lv l < a.length) (h0 : vv a l = 0) : zeros (putV a l) + 1 = zeros a := by
  have hp := lv_pos hl
  unfold vv at h0
  rw [if_pos hin] at h0
  refine zeros_set a _ _ (by omega) (by split at h0 <;> omega) (by split <;> decide)

def Settled (a c : List Int) : Prop := (∃ x ∈ c, vv a x = 1) ∨ ∃ x ∈ c, ∃ y ∈ c, x ≠ y ∧ vv a x = 0 ∧ vv a y = 0
theorem round_l (v : Int) (cs : List (List Int)) (F : List Int) (hf : ∀ c ∈ cs, ∀ x ∈ c, fm x = true) (hl : cs.length < 9223372036854775807) (h8 : ∀ c ∈ cs, c.length < 9223372036854775807) : ∀ (d n : Nat) (m : Nat) (a : List Int), cs.length - n = d → n ≤ cs.length → RI cs F a → m + zeros a ≤ 1048577 →
    ∃ (m' : Nat) (b : Bool) (a' : List Int), Ev (fun k => depotref06_round.l0 k a (m : Int) (n : Int) v cs) ((m' : Int), b, a') ∧ RI cs F a' ∧ (b = true → Clash cs F) ∧ (∀ x, fm x = true → vv a x = 1 → vv a' x = 1) ∧ m' + zeros a' = m + zeros a ∧ m ≤ m' ∧ (b = false → m' = m → a' = a ∧ ∀ c ∈ cs.drop n, Settled a c) := by
  intro d
  induction d with
  | zero =>
    intro n m a hd hn hi hz
    refine ⟨m, false, a, Ev.step (f := fun _ => some ((m : Int), false, a)) (fun k => ?_) (Ev.now _), hi, (fun h => by cases h), fun _ _ h => h, rfl, Nat.le_refl _, fun _ _ => ⟨rfl, by rw [List.drop_eq_nil_of_le (by omega)]; simp⟩⟩
    simp only [depotref06_round.l0]
    rw [if_neg (by omega)]
  | succ d ih =>
    intro n m a hd hn hi hz
    have hlt : n < cs.length := by omega
    have hm := get_mem [] hlt
    obtain ⟨r, s1, s2⟩ := stands a hi.vs _ (hf _ hm) (h8 _ hm)
    have hdr := drop_get [] hlt
    obtain ⟨kd, l⟩ := r
    have hskip : kd ≠ 2 → kd ≠ 3 → Settled a (cs.getD n []) → ∃ (m' : Nat) (b : Bool) (a' : List Int), Ev (fun k => depotref06_round.l0 k a (m : Int) (n : Int) v cs) ((m' : Int), b, a') ∧ RI cs F a' ∧ (b = true → Clash cs F) ∧ (∀ x, fm x = true → vv a x = 1 → vv a' x = 1) ∧ m' + zeros a' = m + zeros a ∧ m ≤ m' ∧ (b = false → m' = m → a' = a ∧ ∀ c ∈ cs.drop n, Settled a c) := by
      intro e2 e3 hs
      obtain ⟨m', b, a', g1, g2, g3, g4, g5, g6, g7⟩ := ih (n + 1) m a (by omega) (by omega) hi hz
      refine ⟨m', b, a', Ev.step (fun k => ?_) (Ev.bind s1 (f := fun k t => if t.1 = 2 then some ((m : Int), true, a) else if t.1 = 3 then (depotref06_Put.f k a t.2).bind fun t2 => depotref06_round.l0 k t2 (wrap64 ((m : Int) + 1)) ((n + 1 : Nat) : Int) v cs else depotref06_round.l0 k a (m : Int) ((n + 1 : Nat) : Int) v cs) (Ev.congr (fun k => ?_) g1)), g2, g3, g4, g5, g6, fun hb he => ?_⟩
      · simp only [depotref06_round.l0]
        rw [if_pos (by omega), if_pos (by omega), rdL_nat, wrap_nat (n := n) (by omega)]
      · rw [if_neg e2, if_neg e3]
      · obtain ⟨k1, k2⟩ := g7 hb he
        refine ⟨k1, fun c hc => ?_⟩
        rw [hdr] at hc
        rcases List.mem_cons.1 hc with e | hc
        · rw [e]; exact hs
        · exact k2 c hc
    rcases s2 with ⟨e, hs⟩ | ⟨e, hs⟩ | ⟨e, hs⟩ | ⟨e, hs1, hs2, hs3⟩
    · have e : kd = 1 := e
      exact hskip (by omega) (by omega) (.inl hs)
    · have e : kd = 0 := e
      exact hskip (by omega) (by omega) (.inr hs)
    · have e : kd = 2 := e
      refine ⟨m, true, a, Ev.step (fun k => ?_) (Ev.bind s1 (f := fun k t => if t.1 = 2 then some ((m : Int), true, a) else if t.1 = 3 then (depotref06_Put.f k a t.2).bind fun t2 => depotref06_round.l0 k t2 (wrap64 ((m : Int) + 1)) ((n + 1 : Nat) : Int) v cs else depotref06_round.l0 k a (m : Int) ((n + 1 : Nat) : Int) v cs) (Ev.congr (fun k => ?_) (Ev.now _))), hi, (fun _ => .inr ⟨_, hm, fun x hx => ?_⟩), fun _ _ h => h, rfl, Nat.le_refl _, fun h => by cases h⟩
      · simp only [depotref06_round.l0]
        rw [if_pos (by omega), if_pos (by omega), rdL_nat, wrap_nat (n := n) (by omega)]
      · rw [if_pos e]
      · have hfx := hf _ hm x hx
        exact hi.snd _ (fm_neg hfx) (by rw [vv_neg a hfx, hs x hx]; rfl)
    · have e : kd = 3 := e
      have hs1 : l ∈ cs.getD n [] := hs1
      have hs2 : vv a l = 0 := hs2
      have hfl := hf _ hm l hs1
      have hin := hi.rc _ hm l hs1
      have hu : UP cs F l := .unit hm hs1 fun x hx hne => hi.snd _ (fm_neg (hf _ hm x hx)) (by rw [vv_neg a (hf _ hm x hx), hs3 x hx hne]; rfl)
      have hz2 := zeros_put hfl hin hs2
      obtain ⟨m', b, a', g1, g2, g3, g4, g5, g6, g7⟩ := ih (n + 1) (m + 1) (putV a l) (by omega) (by omega) (hi.put hfl hin hu) (by omega)
      refine ⟨m', b, a', Ev.step (fun k => ?_) (Ev.bind s1 (f := fun k t => if t.1 = 2 then some ((m : Int), true, a) else if t.1 = 3 then (depotref06_Put.f k a t.2).bind fun t2 => depotref06_round.l0 k t2 (wrap64 ((m : Int) + 1)) ((n + 1 : Nat) : Int) v cs else depotref06_round.l0 k a (m : Int) ((n + 1 : Nat) : Int) v cs) (Ev.congr (fun k => ?_) (Ev.bind (put_v a l hfl hin) (f := fun k t => depotref06_round.l0 k t ((m + 1 : Nat) : Int) ((n + 1 : Nat) : Int) v cs) g1))), g2, g3, fun x hx hv => g4 x hx ?_, by omega, by omega, fun _ he => by omega⟩
      · simp only [depotref06_round.l0]
        rw [if_pos (by omega), if_pos (by omega), rdL_nat, wrap_nat (n := n) (by omega)]
      · rw [if_neg (by omega), if_pos e, wrap_nat (by omega)]
      · rw [vv_put hfl hx hin]
        by_cases e1 : x = l
        · rw [if_pos e1]
        · rw [if_neg e1]
          by_cases e2 : x = -l
          · rw [e2, vv_neg a hfl] at hv; omega
          · rw [if_neg e2]; exact hv

def TT (a : List Int) (l : Int) : Prop := fm l = true ∧ vv a l = 1
theorem closed_of {cs : List (List Int)} {F a : List Int} (hf : ∀ c ∈ cs, ∀ x ∈ c, fm x = true) (hF : ∀ x ∈ F, fm x = true) (h1 : ∀ x ∈ F, vv a x = 1) (h2 : ∀ c ∈ cs, Settled a c) : Closed cs F (TT a) := by
  refine ⟨fun l hl => ⟨hF l hl, h1 l hl⟩, fun l hl hn => ?_, fun c hc => ?_⟩
  · have := hn.2
    rw [vv_neg a hl.1, hl.2] at this
    exact absurd this (by decide)
  · rcases h2 c hc with ⟨x, hx, hv⟩ | ⟨x, hx, y, hy, hne, h3, h4⟩
    · exact .inl ⟨x, hx, hf c hc x hx, hv⟩
    · refine .inr ⟨x, hx, y, hy, hne, fun hn => ?_, fun hn => ?_⟩
      · have := hn.2; rw [vv_neg a (hf c hc x hx)] at this; omega
      · have := hn.2; rw [vv_neg a (hf c hc y hy)] at this; omega
theorem closing_end (v : Int) (cs : List (List Int)) (a : List Int) (n : Int) (b : Bool) (h : n ≤ 0 ∨ b = true) : Ev (fun k => depotref06_Closing.l0 k a n b v cs) (a, b) := by
  refine Ev.step (f := fun _ => some (a, b)) (fun k => ?_) (Ev.now _)
  simp only [depotref06_Closing.l0]
  by_cases hn : n > 0
  · rw [if_pos hn, if_pos (h.resolve_left (by omega))]
  · rw [if_neg hn]
theorem closing_l (v : Int) (cs : List (List Int)) (F : List Int) (hf : ∀ c ∈ cs, ∀ x ∈ c, fm x = true) (hF : ∀ x ∈ F, fm x = true) (hl : cs.length < 9223372036854775807) (h8 : ∀ c ∈ cs, c.length < 9223372036854775807) : ∀ (z : Nat) (a : List Int) (n : Int), zeros a ≤ z → 0 < n → RI cs F a → (∀ x ∈ F, vv a x = 1) →
    ∃ r, Ev (fun k => depotref06_Closing.l0 k a n false v cs) r ∧ RI cs F r.1 ∧ (r.2 = true → Clash cs F) ∧ (r.2 = false → Closed cs F (TT r.1)) := by
  intro z
  induction z with
  | zero =>
    intro a n hz hn hi ht
    obtain ⟨m', b, a', g1, g2, g3, g4, g5, g6, g7⟩ := round_l v cs F hf hl h8 _ 0 0 a rfl (by omega) hi (by have := zeros_le a; have := hi.vs.len; omega)
    have he : Ev (fun k => depotref06_Closing.l0 k a' (m' : Int) b v cs) (a', b) := closing_end v cs a' _ b (.inl (by omega))
    refine ⟨(a', b), Ev.step (fun k => ?_) (Ev.bind g1 (f := fun k t => depotref06_Closing.l0 k t.2.2 t.1 t.2.1 v cs) he), g2, g3, fun hb => ?_⟩
    · simp only [depotref06_Closing.l0]
      rw [if_pos hn, if_neg (by decide)]
      rfl
    · obtain ⟨k1, k2⟩ := g7 hb (by omega)
      show Closed cs F (TT a')
      rw [k1]
      exact closed_of hf hF ht (by simpa using k2)
  | succ z ih =>
    intro a n hz hn hi ht
    obtain ⟨m', b, a', g1, g2, g3, g4, g5, g6, g7⟩ := round_l v cs F hf hl h8 _ 0 0 a rfl (by omega) hi (by have := zeros_le a; have := hi.vs.len; omega)
    have hstep : ∀ r, Ev (fun k => depotref06_Closing.l0 k a' (m' : Int) b v cs) r → Ev (fun k => depotref06_Closing.l0 k a n false v cs) r := fun r hr =>
      Ev.step (fun k => by
        simp only [depotref06_Closing.l0]
        rw [if_pos hn, if_neg (by decide)]
        rfl) (Ev.bind g1 (f := fun k t => depotref06_Closing.l0 k t.2.2 t.1 t.2.1 v cs) hr)
    cases b with
    | true => exact ⟨(a', true), hstep _ (closing_end v cs a' _ true (.inr rfl)), g2, fun _ => g3 rfl, fun h => by cases h⟩
    | false =>
      by_cases hm : m' = 0
      · obtain ⟨k1, k2⟩ := g7 rfl hm
        refine ⟨(a', false), hstep _ (closing_end v cs a' _ false (.inl (by omega))), g2, (fun h => by cases h), fun _ => ?_⟩
        show Closed cs F (TT a')
        rw [k1]
        exact closed_of hf hF ht (by simpa using k2)
      · obtain ⟨r, h1, h2⟩ := ih a' (m' : Int) (by omega) (by omega) g2 (fun x hx => g4 x (hF x hx) (ht x hx))
        exact ⟨r, hstep r h1, h2⟩

theorem closing (v : Int) (cs : List (List Int)) (F : List Int) (hf : ∀ c ∈ cs, ∀ x ∈ c, fm x = true) (hF : ∀ x ∈ F, fm x = true) (hl : cs.length < 9223372036854775807) (h8 : ∀ c ∈ cs, c.length < 9223372036854775807) (hFl : F.length < 9223372036854775807) :
    ∃ r, Ev (fun k => depotref06_Closing.f k v cs F) r ∧ Vs r.1 ∧ (r.2 = true → Clash cs F) ∧ (r.2 = false → ¬ Clash cs F ∧ ∀ l, fm l = true → (vv r.1 l = 1 ↔ UP cs F l)) := by
  obtain ⟨m, h1, h2, h3, h4⟩ := values v cs F hf hF hl h8 hFl
  have hz : ∀ i, (List.replicate (m + 1) (0 : Int)).getD i 0 = 0 := fun i => by rw [List.getD_eq_getElem?_getD, List.getElem?_replicate]; split <;> rfl
  have hv0 : ∀ l, vv (List.replicate (m + 1) 0) l = 0 := fun l => by
    unfold vv; rw [hz]; split
    · split <;> rfl
    · rfl
  have hi : RI cs F (List.replicate (m + 1) 0) := ⟨⟨by simp; omega, fun i => by rw [hz]; omega⟩, fun c hc x hx => by have := h3 c hc x hx; simp; omega, fun x hx => by have := h4 x hx; simp; omega, fun l _ h => by rw [hv0] at h; exact absurd h (by decide)⟩
  obtain ⟨g, g1, g2, g3, g4⟩ := given_l cs F hF hFl _ 0 _ rfl (by omega) hi (by simp)
  have hg : Ev (fun k => depotref06_given.f k v cs F) g := by
    unfold depotref06_given.f
    exact Ev.bind h1 g1
  obtain ⟨a, b⟩ := g
  cases b with
  | false =>
    refine ⟨(a, true), ?_, g2.vs, fun _ => g4 rfl, fun h => by cases h⟩
    unfold depotref06_Closing.f
    exact Ev.bind hg (Ev.congr (fun k => by rw [if_neg (show ¬ (false = true) by decide)]) (Ev.now _))
  | true =>
    obtain ⟨r, r1, r2, r3, r4⟩ := closing_l v cs F hf hF hl h8 _ a 1 (Nat.le_refl _) (by omega) g2 (g3 rfl)
    refine ⟨r, ?_, r2.vs, r3, fun hb => ?_⟩
    · unfold depotref06_Closing.f
      exact Ev.bind hg (Ev.congr (fun k => by rw [if_pos rfl]) r1)
    · have hC := r4 hb
      exact ⟨hC.no_clash, fun l hfl => ⟨r2.snd l hfl, fun hu => (hC.up hu).2⟩⟩

end Go.Proofs.Ytfljggodnnpeiaa.Rf
