/- Part of the proof of AtmostForces: what the law uses of the text AtM. -/
import Derived.Test.YtcaoobdbgdldaaaZPAtD
import Derived.Test.YtcaoobdbgdldaaaZPUpD
namespace Go.Proofs.Ytcaoobdbgdldaaa.Atm
open Go.RowKit Go.Proofs.Ytcaoobdbgdldaaa.Lit Go.Proofs.Ytcaoobdbgdldaaa.Spr
set_option linter.unusedVariables false
set_option linter.unusedSimpArgs false

theorem getD_mem0 {xs : List Int} {n : Nat} (h : n < xs.length) : xs.getD n 0 ∈ xs := by
  rw [List.getD_eq_getElem?_getD, List.getElem?_eq_getElem h]; exact List.getElem_mem _
theorem mem_getD {xs : List Int} {x : Int} (h : x ∈ xs) : ∃ n, n < xs.length ∧ xs.getD n 0 = x := by
  obtain ⟨n, hn, rfl⟩ := List.getElem_of_mem h
  exact ⟨n, hn, by rw [List.getD_eq_getElem?_getD, List.getElem?_eq_getElem hn]; rfl⟩
theorem nd_len : ∀ (a b : List Int), a.Nodup → (∀ x ∈ a, x ∈ b) → a.length ≤ b.length
  | [], _, _, _ => Nat.zero_le _
  | x :: t, b, hn, h => by
    have hx := h x List.mem_cons_self
    have hn2 := List.nodup_cons.1 hn
    have := nd_len t (b.erase x) hn2.2 (fun y hy => (List.mem_erase_of_ne (fun e => hn2.1 (by rw [← e]; exact hy))).2 (h y (List.mem_cons_of_mem _ hy)))
    rw [List.length_erase_of_mem hx] at this
    have := List.length_pos_of_mem hx
    rw [List.length_cons]; omega

def s (f : Int) (k i j : Nat) : Int := sI f k i j
theorem s_eq {f : Int} {k : Nat} (i j : Nat) {a b : Int} (ha : a = i) (hb : b = j) : sI f k a b = s f k i j := by subst ha hb; rfl

inductive Cl (l : List Int) (f : Int) (k : Nat) : List Int → Prop
  | a (i : Nat) : i + 2 ≤ l.length → Cl l f k [-(l.getD i 0), s f k (i + 1) 1]
  | b (j : Nat) : j + 2 ≤ k → Cl l f k [-(s f k 1 (j + 2))]
  | c (i j : Nat) : 1 ≤ i → i + 2 ≤ l.length → 1 ≤ j → j ≤ k → Cl l f k [-(s f k i j), s f k (i + 1) j]
  | d (i j : Nat) : 1 ≤ i → i + 2 ≤ l.length → 1 ≤ j → j + 1 ≤ k → Cl l f k [-(l.getD i 0), -(s f k i j), s f k (i + 1) (j + 1)]
  | e (i : Nat) : 1 ≤ i → i + 1 ≤ l.length → Cl l f k [-(l.getD i 0), -(s f k i k)]

theorem head_eq (f : Int) (k : Nat) (l : List Int) : headL f k l = [[-(l.getD 0 0), s f k 1 1]] := rfl
theorem mid_eq (f : Int) (k m : Nat) (x : Int) (h : Nat) : midL f k ((m : Int) + 2) x h = [[x, -(s f k (m + 1) (h + 1)), s f k (m + 2) (h + 2)], [-(s f k (m + 1) (h + 2)), s f k (m + 2) (h + 2)]] := by
  unfold midL
  rw [s_eq (m + 1) (h + 1) (by omega) (by omega), s_eq (m + 2) (h + 2) (by omega) (by omega), s_eq (m + 1) (h + 2) (by omega) (by omega)]
theorem row_eq (f : Int) (k : Nat) (l : List Int) (m : Nat) : rowL f k l m = [[-(l.getD (m + 1) 0), s f k (m + 2) 1], [-(s f k (m + 1) 1), s f k (m + 2) 1]] ++ (List.range (k - 1)).flatMap (fun h => [[-(l.getD (m + 1) 0), -(s f k (m + 1) (h + 1)), s f k (m + 2) (h + 2)], [-(s f k (m + 1) (h + 2)), s f k (m + 2) (h + 2)]]) ++ [[-(l.getD (m + 1) 0), -(s f k (m + 1) k)]] := by
  unfold rowL
  rw [show midL f k ((m : Int) + 2) (-(l.getD (m + 1) 0)) = _ from funext fun h => mid_eq f k m _ h]
  rw [s_eq (m + 2) 1 (by omega) (by omega), s_eq (m + 1) 1 (by omega) (by omega), s_eq (m + 1) k (by omega) (by omega)]
theorem clauses_eq (l : List Int) (k : Nat) (f : Int) (hk : 1 ≤ k) (hl : 1 ≤ l.length) : clausesL l k f = [[-(l.getD 0 0), s f k 1 1]] ++ (List.range (k - 1)).map (fun j => [-(s f k 1 (j + 2))]) ++ (List.range (l.length - 2)).flatMap (rowL f k l) ++ [[-(l.getD (l.length - 1) 0), -(s f k (l.length - 1) k)]] := by
  unfold clausesL
  rw [if_neg (by omega), head_eq, show (fun j : Nat => [-(sI f k 1 ((j : Int) + 2))]) = fun j => [-(s f k 1 (j + 2))] from funext fun j => by rw [s_eq 1 (j + 2) (by omega) (by omega)]]
  rw [s_eq (l.length - 1) k (by omega) (by omega)]

theorem cl_of {l : List Int} {k : Nat} {f : Int} (hk : 1 ≤ k) (hl : k < l.length) {c : List Int} (h : c ∈ clausesL l k f) : Cl l f k c := by
  rw [clauses_eq l k f hk (by omega)] at h
  simp only [List.mem_append, List.mem_map, List.mem_flatMap, List.mem_range, List.mem_singleton, row_eq, List.mem_cons, List.not_mem_nil, or_false] at h
  rcases h with ((rfl | ⟨j, hj, rfl⟩) | ⟨m, hm, (((rfl | rfl) | ⟨h, hh, (rfl | rfl)⟩) | rfl)⟩) | rfl
  · exact .a 0 (by omega)
  · exact .b j (by omega)
  · exact .a (m + 1) (by omega)
  · exact .c (m + 1) 1 (by omega) (by omega) (by omega) (by omega)
  · exact .d (m + 1) (h + 1) (by omega) (by omega) (by omega) (by omega)
  · exact .c (m + 1) (h + 2) (by omega) (by omega) (by omega) (by omega)
  · exact .e (m + 1) (by omega) (by omega)
  · exact .e (l.length - 1) (by omega) (by omega)
theorem of_cl {l : List Int} {k : Nat} {f : Int} (hk : 1 ≤ k) (hl : k < l.length) {c : List Int} (h : Cl l f k c) : c ∈ clausesL l k f := by
  rw [clauses_eq l k f hk (by omega)]
  simp only [List.mem_append, List.mem_map, List.mem_flatMap, List.mem_range, List.mem_singleton, row_eq, List.mem_cons, List.not_mem_nil, or_false]
  cases h with
  | a i h =>
    by_cases e : i = 0
    · subst e; exact .inl (.inl (.inl rfl))
    · obtain ⟨m, rfl⟩ : ∃ m, i = m + 1 := ⟨i - 1, by omega⟩
      exact .inl (.inr ⟨m, by omega, .inl (.inl (.inl rfl))⟩)
  | b j h => exact .inl (.inl (.inr ⟨j, by omega, rfl⟩))
  | c i j h1 h2 h3 h4 =>
    obtain ⟨m, rfl⟩ : ∃ m, i = m + 1 := ⟨i - 1, by omega⟩
    by_cases e : j = 1
    · subst e; exact .inl (.inr ⟨m, by omega, .inl (.inl (.inr rfl))⟩)
    · obtain ⟨q, rfl⟩ : ∃ q, j = q + 2 := ⟨j - 2, by omega⟩
      exact .inl (.inr ⟨m, by omega, .inl (.inr ⟨q, by omega, .inr rfl⟩)⟩)
  | d i j h1 h2 h3 h4 =>
    obtain ⟨m, rfl⟩ : ∃ m, i = m + 1 := ⟨i - 1, by omega⟩
    obtain ⟨q, rfl⟩ : ∃ q, j = q + 1 := ⟨j - 1, by omega⟩
    exact .inl (.inr ⟨m, by omega, .inl (.inr ⟨q, by omega, .inl rfl⟩)⟩)
  | e i h1 h2 =>
    obtain ⟨m, rfl⟩ : ∃ m, i = m + 1 := ⟨i - 1, by omega⟩
    by_cases e : m + 2 = l.length
    · exact .inr (by rw [← e]; rfl)
    · exact .inl (.inr ⟨m, by omega, .inr rfl⟩)

def cnt (C l : List Int) (i : Nat) : Nat := ((l.take i).filter fun x => C.contains x).length
theorem cnt_zero (C l : List Int) : cnt C l 0 = 0 := rfl
theorem cnt_in {C l : List Int} {i : Nat} (h : i < l.length) (hc : l.getD i 0 ∈ C) : cnt C l (i + 1) = cnt C l i + 1 := by
  unfold cnt
  rw [List.take_add_one, List.filter_append, List.length_append, List.getElem?_eq_getElem h]
  rw [List.getD_eq_getElem?_getD, List.getElem?_eq_getElem h] at hc
  simp only [Option.getD_some] at hc
  simp [hc]
theorem cnt_out {C l : List Int} {i : Nat} (h : i < l.length) (hc : l.getD i 0 ∉ C) : cnt C l (i + 1) = cnt C l i := by
  unfold cnt
  rw [List.take_add_one, List.filter_append, List.length_append, List.getElem?_eq_getElem h]
  rw [List.getD_eq_getElem?_getD, List.getElem?_eq_getElem h] at hc
  simp only [Option.getD_some] at hc
  simp [hc]
theorem cnt_step (C l : List Int) {i : Nat} (h : i < l.length) : cnt C l i ≤ cnt C l (i + 1) ∧ cnt C l (i + 1) ≤ cnt C l i + 1 := by
  by_cases hc : l.getD i 0 ∈ C
  · rw [cnt_in h hc]; omega
  · rw [cnt_out h hc]; omega
theorem cnt_le (C l : List Int) : ∀ (d i : Nat), i + d = l.length → cnt C l i ≤ cnt C l l.length
  | 0, i, h => by rw [← h]; exact Nat.le_refl _
  | d + 1, i, h => Nat.le_trans (cnt_step C l (by omega)).1 (cnt_le C l d (i + 1) (by omega))
theorem cnt_all {C l : List Int} (hC : C.Nodup) (hl : l.Nodup) (hs : ∀ x ∈ C, x ∈ l) : cnt C l l.length = C.length := by
  unfold cnt
  rw [List.take_length]
  refine Nat.le_antisymm (nd_len _ _ (hl.filter _) fun x hx => by simpa using (List.mem_filter.1 hx).2) (nd_len _ _ hC fun x hx => List.mem_filter.2 ⟨hs x hx, by simpa using hx⟩)
theorem cross (g : Nat → Nat) (k : Nat) : ∀ n, g 0 ≤ k → k < g n → ∃ p, p < n ∧ g p ≤ k ∧ k < g (p + 1)
  | 0, h1, h2 => by omega
  | n + 1, h1, h2 => by
    by_cases h : k < g n
    · obtain ⟨p, a, b⟩ := cross g k n h1 h; exact ⟨p, by omega, b⟩
    · exact ⟨n, by omega, by omega, h2⟩

theorem one {cls : List (List Int)} {F : List Int} {x : Int} (h : [x] ∈ cls) : UP cls F x :=
  .unit h (by simp) fun y hy hne => by simp at hy; exact absurd hy hne
theorem fst2 {cls : List (List Int)} {F : List Int} {x y : Int} (h : [x, y] ∈ cls) (hy : UP cls F (-y)) : UP cls F x :=
  .unit h (by simp) fun z hz hne => by simp at hz; rcases hz with e | e; exact absurd e hne; rw [e]; exact hy
theorem snd2 {cls : List (List Int)} {F : List Int} {x y : Int} (h : [x, y] ∈ cls) (hx : UP cls F (-x)) : UP cls F y :=
  .unit h (by simp) fun z hz hne => by simp at hz; rcases hz with e | e; rw [e]; exact hx; exact absurd e hne
theorem fst3 {cls : List (List Int)} {F : List Int} {x y z : Int} (h : [x, y, z] ∈ cls) (hy : UP cls F (-y)) (hz : UP cls F (-z)) : UP cls F x :=
  .unit h (by simp) fun u hu hne => by simp at hu; rcases hu with e | e | e; exact absurd e hne; rw [e]; exact hy; rw [e]; exact hz
theorem snd3 {cls : List (List Int)} {F : List Int} {x y z : Int} (h : [x, y, z] ∈ cls) (hx : UP cls F (-x)) (hz : UP cls F (-z)) : UP cls F y :=
  .unit h (by simp) fun u hu hne => by simp at hu; rcases hu with e | e | e; rw [e]; exact hx; exact absurd e hne; rw [e]; exact hz
theorem thd3 {cls : List (List Int)} {F : List Int} {x y z : Int} (h : [x, y, z] ∈ cls) (hx : UP cls F (-x)) (hy : UP cls F (-y)) : UP cls F z :=
  .unit h (by simp) fun u hu hne => by simp at hu; rcases hu with e | e | e; rw [e]; exact hx; rw [e]; exact hy; exact absurd e hne
theorem nn {cls : List (List Int)} {F : List Int} {x : Int} (h : UP cls F x) : UP cls F (-(-x)) := by rw [Int.neg_neg]; exact h

theorem fwd {l C : List Int} {k : Nat} {f : Int} (hk : 1 ≤ k) (hl : k < l.length) : ∀ i, 1 ≤ i → i + 1 ≤ l.length → ∀ j, 1 ≤ j → j ≤ k → j ≤ cnt C l i → UP (clausesL l k f) C (s f k i j)
  | 0, h, _, _, _, _, _ => by omega
  | i + 1, _, hi, j, j1, jk, jc => by
    by_cases e0 : j ≤ cnt C l i
    · have i1 : 1 ≤ i := by
        by_cases e : i = 0
        · subst e; rw [cnt_zero] at e0; omega
        · omega
      exact snd2 (of_cl hk hl (.c i j i1 (by omega) j1 jk)) (nn (fwd hk hl i i1 (by omega) j j1 jk e0))
    · have hin : l.getD i 0 ∈ C := by
        by_cases h : l.getD i 0 ∈ C
        · exact h
        · rw [cnt_out (by omega) h] at jc; omega
      rw [cnt_in (by omega) hin] at jc
      by_cases e1 : j = 1
      · subst e1
        exact snd2 (of_cl hk hl (.a i (by omega))) (nn (.fact hin))
      · obtain ⟨q, rfl⟩ : ∃ q, j = q + 1 := ⟨j - 1, by omega⟩
        have i1 : 1 ≤ i := by
          by_cases e : i = 0
          · subst e; rw [cnt_zero] at jc; omega
          · omega
        exact thd3 (of_cl hk hl (.d i q i1 (by omega) (by omega) (by omega))) (nn (.fact hin)) (nn (fwd hk hl i i1 (by omega) q (by omega) (by omega) (by omega)))

theorem bwd {l C : List Int} {k : Nat} {f : Int} (hk : 1 ≤ k) (hl : k < l.length) (hn : cnt C l l.length = k) : ∀ d i, i + d + 1 = l.length → 1 ≤ i → ∀ j, 1 ≤ j → j ≤ k → cnt C l i < j → UP (clausesL l k f) C (-(s f k i j))
  | 0, i, hi, i1, j, j1, jk, jc => by
    have hl1 : i < l.length := by omega
    rw [← hi] at hn
    have hin : l.getD i 0 ∈ C := by
      by_cases h : l.getD i 0 ∈ C
      · exact h
      · rw [Nat.add_zero, cnt_out hl1 h] at hn; omega
    rw [Nat.add_zero, cnt_in hl1 hin] at hn
    obtain rfl : j = k := by omega
    exact snd2 (of_cl hk hl (.e i i1 (by omega))) (nn (.fact hin))
  | d + 1, i, hi, i1, j, j1, jk, jc => by
    by_cases e0 : cnt C l (i + 1) < j
    · exact fst2 (of_cl hk hl (.c i j i1 (by omega) j1 jk)) (bwd hk hl hn d (i + 1) (by omega) (by omega) j j1 jk e0)
    · have hin : l.getD i 0 ∈ C := by
        by_cases h : l.getD i 0 ∈ C
        · exact h
        · rw [cnt_out (by omega) h] at e0; omega
      have e1 := cnt_in (by omega) hin
      by_cases e : j = k
      · subst e
        exact snd2 (of_cl hk hl (.e i i1 (by omega))) (nn (.fact hin))
      · exact snd3 (of_cl hk hl (.d i j i1 (by omega) j1 (by omega))) (nn (.fact hin)) (bwd hk hl hn d (i + 1) (by omega) (by omega) (j + 1) (by omega) (by omega) (by omega))

theorem others {l C : List Int} {f : Int} (hC : C.Nodup) (hn : l.Nodup) (hs : ∀ x ∈ C, x ∈ l) (hlt : C.length < l.length) {x : Int} (hx : x ∈ l) (hxC : x ∉ C) : UP (clausesL l C.length f) C (-x) := by
  have hall := cnt_all hC hn hs
  by_cases hk : C.length = 0
  · refine one ?_
    rw [hk]
    unfold clausesL
    rw [if_pos rfl]
    exact List.mem_map.2 ⟨x, hx, rfl⟩
  · generalize hkk : C.length = k at *
    have hk1 : 1 ≤ k := by omega
    obtain ⟨p, hp, rfl⟩ := mem_getD hx
    have e1 := cnt_out hp hxC
    by_cases e0 : p = 0
    · subst e0
      rw [cnt_zero] at e1
      have e3 : cnt C l 1 = 0 := e1
      exact fst2 (of_cl hk1 hlt (.a 0 (by omega))) (bwd hk1 hlt hall (l.length - 2) 1 (by omega) (by omega) 1 (by omega) (by omega) (by omega))
    · by_cases e2 : k ≤ cnt C l p
      · exact fst2 (of_cl hk1 hlt (.e p (by omega) (by omega))) (nn (fwd hk1 hlt p (by omega) (by omega) k (by omega) (by omega) e2))
      · have hpl : p + 2 ≤ l.length := by
          by_cases h : p + 1 = l.length
          · rw [h, hall] at e1; omega
          · omega
        by_cases e3 : cnt C l p = 0
        · exact fst2 (of_cl hk1 hlt (.a p (by omega))) (bwd hk1 hlt hall (l.length - 2 - p) (p + 1) (by omega) (by omega) 1 (by omega) (by omega) (by omega))
        · exact fst3 (of_cl hk1 hlt (.d p (cnt C l p) (by omega) (by omega) (by omega) (by omega))) (nn (fwd hk1 hlt p (by omega) (by omega) _ (by omega) (by omega) (Nat.le_refl _))) (bwd hk1 hlt hall (l.length - 2 - p) (p + 1) (by omega) (by omega) (cnt C l p + 1) (by omega) (by omega) (by omega))

theorem more {l C : List Int} {f : Int} (hC : C.Nodup) (hn : l.Nodup) (hs : ∀ x ∈ C, x ∈ l) (k : Nat) (hk : C.length = k + 1) : Clash (clausesL l k f) C := by
  have hall := cnt_all hC hn hs
  have hle := nd_len C l hC hs
  have hlt : k < l.length := by omega
  by_cases h0 : k = 0
  · subst h0
    have h1 : C.getD 0 0 ∈ C := getD_mem0 (by omega)
    refine .inr ⟨[-(C.getD 0 0)], ?_, fun x hx => ?_⟩
    · unfold clausesL
      rw [if_pos rfl]
      exact List.mem_map.2 ⟨_, hs _ h1, rfl⟩
    · rw [List.mem_singleton.1 hx]
      exact nn (.fact h1)
  · have hk1 : 1 ≤ k := by omega
    obtain ⟨p, p1, p2, p3⟩ := cross (cnt C l) k l.length (by rw [cnt_zero]; omega) (by omega)
    have hin : l.getD p 0 ∈ C := by
      by_cases h : l.getD p 0 ∈ C
      · exact h
      · rw [cnt_out p1 h] at p3; omega
    rw [cnt_in p1 hin] at p3
    have hp : 1 ≤ p := by
      by_cases e : p = 0
      · subst e; rw [cnt_zero] at p3; omega
      · omega
    refine .inr ⟨_, of_cl hk1 hlt (.e p hp (by omega)), fun x hx => ?_⟩
    simp only [List.mem_cons, List.not_mem_nil, or_false] at hx
    rcases hx with rfl | rfl
    · exact nn (.fact hin)
    · exact nn (fwd hk1 hlt p hp (by omega) k hk1 (Nat.le_refl _) (by omega))

theorem val_up {cs : List (List Int)} {F : List Int} {val : Int → Bool} (hv : ∀ x, x ≠ 0 → val (-x) = !val x) (hF : ∀ l ∈ F, val l = true) (h0 : ∀ c ∈ cs, ∀ x ∈ c, x ≠ 0) (hc : ∀ c ∈ cs, ∃ x ∈ c, val x = true) {l : Int} (h : UP cs F l) : val l = true := by
  induction h with
  | fact hl => exact hF _ hl
  | @unit c l h1 h2 _ ih =>
    obtain ⟨x, hx, hb⟩ := hc c h1
    by_cases e : x = l
    · rw [← e]; exact hb
    · have := ih x hx e
      rw [hv x (h0 c h1 x hx), hb] at this
      exact absurd this (by decide)
theorem val_no_clash {cs : List (List Int)} {F : List Int} {val : Int → Bool} (hv : ∀ x, x ≠ 0 → val (-x) = !val x) (hF : ∀ l ∈ F, val l = true) (hF0 : ∀ l ∈ F, l ≠ 0) (h0 : ∀ c ∈ cs, ∀ x ∈ c, x ≠ 0) (hc : ∀ c ∈ cs, ∃ x ∈ c, val x = true) : ¬ Clash cs F := by
  rintro (⟨l, h1, h2⟩ | ⟨c, h1, h2⟩)
  · have a := val_up hv hF h0 hc h1
    have b := val_up hv hF h0 hc h2
    rw [hv l (h1.of (P := (· ≠ 0)) hF0 h0), a] at b
    exact absurd b (by decide)
  · obtain ⟨x, hx, hb⟩ := hc c h1
    have b := val_up hv hF h0 hc (h2 x hx)
    rw [hv x (h0 c h1 x hx), hb] at b
    exact absurd b (by decide)

def tv (C l : List Int) (k : Nat) (v : Int) : Bool :=
  if v ≤ 60 then C.contains v || (!C.contains (-v) && l.contains (-v)) else decide ((v - 61).toNat % k < cnt C l ((v - 61).toNat / k + 1))
def val (C l : List Int) (k : Nat) (x : Int) : Bool := if x < 0 then !tv C l k (-x) else tv C l k x
theorem val_neg (C l : List Int) (k : Nat) (x : Int) (h : x ≠ 0) : val C l k (-x) = !val C l k x := by
  unfold val
  by_cases h0 : x < 0
  · rw [if_neg (by omega), if_pos h0]; simp
  · rw [if_pos (by omega), if_neg h0, Int.neg_neg]
structure Fit (l : List Int) : Prop where
  len : l.length ≤ 60
  rng : ∀ x ∈ l, x ≠ 0 ∧ -60 ≤ x ∧ x ≤ 60
  nd : l.Nodup
  un : ∀ x ∈ l, -x ∉ l
theorem val_lit {C l : List Int} (h : Fit l) (hs : ∀ x ∈ C, x ∈ l) (k : Nat) {x : Int} (hx : x ∈ l) : val C l k x = decide (x ∈ C) := by
  have h1 := h.rng x hx
  have h2 := h.un x hx
  have h3 : -x ∉ C := fun e => h2 (hs _ e)
  unfold val tv
  by_cases h0 : x < 0
  · rw [if_pos h0, if_pos (by omega), Int.neg_neg, show C.contains (-x) = false by simpa using h3, show l.contains x = true by simpa using hx, Bool.false_or, Bool.and_true, Bool.not_not, List.contains_eq_mem]
  · rw [if_neg h0, if_pos (by omega), show l.contains (-x) = false by simpa using h2, Bool.and_false, Bool.or_false, List.contains_eq_mem]
theorem s_nat {k i j : Nat} (hi : 1 ≤ i) (hj : 1 ≤ j) : s 61 k i j = 61 + (((i - 1) * k + (j - 1) : Nat) : Int) := by
  unfold s sI
  rw [show ((i : Int) - 1) = ((i - 1 : Nat) : Int) by omega, Int.natCast_add, Int.natCast_mul]
  omega
theorem val_s {C l : List Int} {k i j : Nat} (hi : 1 ≤ i) (hj : 1 ≤ j) (hk : j ≤ k) : val C l k (s 61 k i j) = decide (j ≤ cnt C l i) := by
  rw [s_nat hi hj]
  unfold val tv
  rw [if_neg (by omega), if_neg (by omega), show (61 + (((i - 1) * k + (j - 1) : Nat) : Int) - 61).toNat = (j - 1) + k * (i - 1) by rw [Nat.mul_comm]; omega, Nat.add_mul_mod_self_left, Nat.mod_eq_of_lt (by omega), Nat.add_mul_div_left _ _ (by omega), Nat.div_eq_of_lt (by omega)]
  rw [show 0 + (i - 1) + 1 = i by omega]
  exact decide_eq_decide.2 (by omega)

theorem lit_ne {l : List Int} (h : Fit l) {i : Nat} (hi : i < l.length) : l.getD i 0 ≠ 0 := (h.rng _ (getD_mem0 hi)).1
theorem s_ne {k i j : Nat} (hi : 1 ≤ i) (hj : 1 ≤ j) : s 61 k i j ≠ 0 := by rw [s_nat hi hj]; omega
theorem cl_ne {l : List Int} (h : Fit l) {k : Nat} (hk : 1 ≤ k) {c : List Int} (hc : Cl l 61 k c) : ∀ x ∈ c, x ≠ 0 := by
  intro x hx
  cases hc with
  | a i h1 =>
    simp only [List.mem_cons, List.not_mem_nil, or_false] at hx
    rcases hx with rfl | rfl
    · have := lit_ne h (show i < l.length by omega); omega
    · exact s_ne (by omega) (by omega)
  | b j h1 =>
    simp only [List.mem_cons, List.not_mem_nil, or_false] at hx
    subst hx
    have := s_ne (k := k) (i := 1) (j := j + 2) (by omega) (by omega); omega
  | c i j h1 h2 h3 h4 =>
    simp only [List.mem_cons, List.not_mem_nil, or_false] at hx
    rcases hx with rfl | rfl
    · have := s_ne (k := k) h1 h3; omega
    · exact s_ne (by omega) h3
  | d i j h1 h2 h3 h4 =>
    simp only [List.mem_cons, List.not_mem_nil, or_false] at hx
    rcases hx with rfl | rfl | rfl
    · have := lit_ne h (show i < l.length by omega); omega
    · have := s_ne (k := k) h1 h3; omega
    · exact s_ne (by omega) (by omega)
  | e i h1 h2 =>
    simp only [List.mem_cons, List.not_mem_nil, or_false] at hx
    rcases hx with rfl | rfl
    · have := lit_ne h (show i < l.length by omega); omega
    · have := s_ne (k := k) h1 hk; omega

theorem cl_true {l C : List Int} (h : Fit l) (hC : C.Nodup) (hs : ∀ x ∈ C, x ∈ l) {k : Nat} (hk : 1 ≤ k) (hkc : k = C.length) {c : List Int} (hc : Cl l 61 k c) : ∃ x ∈ c, val C l k x = true := by
  have hall := cnt_all hC h.nd hs
  have vl : ∀ i, i < l.length → val C l k (-(l.getD i 0)) = !decide (l.getD i 0 ∈ C) := fun i hi => by rw [val_neg _ _ _ _ (lit_ne h hi), val_lit h hs k (getD_mem0 hi)]
  have vs : ∀ i j, 1 ≤ i → 1 ≤ j → j ≤ k → val C l k (-(s 61 k i j)) = !decide (j ≤ cnt C l i) := fun i j h1 h2 h3 => by rw [val_neg _ _ _ _ (s_ne h1 h2), val_s h1 h2 h3]
  cases hc with
  | a i h1 =>
    by_cases e : l.getD i 0 ∈ C
    · refine ⟨s 61 k (i + 1) 1, by simp, ?_⟩
      rw [val_s (by omega) (by omega) hk, cnt_in (by omega) e]
      exact decide_eq_true (by omega)
    · exact ⟨-(l.getD i 0), by simp, by rw [vl i (by omega), decide_eq_false e]; rfl⟩
  | b j h1 =>
    refine ⟨_, List.mem_singleton_self _, ?_⟩
    by_cases h0 : 0 < l.length
    · have := cnt_step C l h0
      rw [cnt_zero] at this
      have this2 : cnt C l 1 ≤ 0 + 1 := this.2
      rw [vs 1 (j + 2) (by omega) (by omega) h1, decide_eq_false (by omega)]; rfl
    · have := nd_len C l hC hs
      omega
  | c i j h1 h2 h3 h4 =>
    by_cases e : j ≤ cnt C l i
    · have := (cnt_step C l (show i < l.length by omega)).1
      exact ⟨s 61 k (i + 1) j, by simp, by rw [val_s (by omega) h3 h4]; exact decide_eq_true (by omega)⟩
    · exact ⟨-(s 61 k i j), by simp, by rw [vs i j h1 h3 h4, decide_eq_false e]; rfl⟩
  | d i j h1 h2 h3 h4 =>
    by_cases e : l.getD i 0 ∈ C
    · by_cases e2 : j ≤ cnt C l i
      · exact ⟨s 61 k (i + 1) (j + 1), by simp, by rw [val_s (by omega) (by omega) h4, cnt_in (by omega) e]; exact decide_eq_true (by omega)⟩
      · exact ⟨-(s 61 k i j), by simp, by rw [vs i j h1 h3 (by omega), decide_eq_false e2]; rfl⟩
    · exact ⟨-(l.getD i 0), by simp, by rw [vl i (by omega), decide_eq_false e]; rfl⟩
  | e i h1 h2 =>
    by_cases e : l.getD i 0 ∈ C
    · by_cases e2 : k ≤ cnt C l i
      · have := cnt_in (show i < l.length by omega) e
        have := cnt_le C l (l.length - (i + 1)) (i + 1) (by omega)
        omega
      · exact ⟨-(s 61 k i k), by simp, by rw [vs i k h1 hk (Nat.le_refl _), decide_eq_false e2]; rfl⟩
    · exact ⟨-(l.getD i 0), by simp, by rw [vl i (by omega), decide_eq_false e]; rfl⟩

theorem ne_all {l : List Int} (h : Fit l) (k : Nat) (hlt : k < l.length) : ∀ c ∈ clausesL l k 61, ∀ x ∈ c, x ≠ 0 := by
  by_cases hk : k = 0
  · subst hk
    unfold clausesL
    rw [if_pos rfl]
    intro c hc x hx
    obtain ⟨y, hy, rfl⟩ := List.mem_map.1 hc
    rw [List.mem_singleton.1 hx]
    have := h.rng y hy
    omega
  · exact fun c hc => cl_ne h (by omega) (cl_of (by omega) hlt hc)
theorem no_clash {l C : List Int} (h : Fit l) (hC : C.Nodup) (hs : ∀ x ∈ C, x ∈ l) (hlt : C.length < l.length) : ¬ Clash (clausesL l C.length 61) C := by
  refine val_no_clash (val := val C l C.length) (val_neg _ _ _) (fun x hx => by rw [val_lit h hs _ (hs x hx)]; exact decide_eq_true hx) (fun x hx => (h.rng x (hs x hx)).1) (ne_all h _ hlt) ?_
  by_cases hk : C.length = 0
  · rw [hk]
    unfold clausesL
    rw [if_pos rfl]
    intro c hc
    obtain ⟨y, hy, rfl⟩ := List.mem_map.1 hc
    have hC0 : C = [] := List.length_eq_zero_iff.1 hk
    refine ⟨_, List.mem_singleton_self _, ?_⟩
    rw [val_neg _ _ _ _ (h.rng y hy).1, val_lit h hs _ hy, hC0]
    simp
  · exact fun c hc => cl_true h hC hs (by omega) rfl (cl_of (by omega) hlt hc)
theorem no_clash_nil {l C : List Int} (h : Fit l) (hs : ∀ x ∈ C, x ∈ l) : ¬ Clash [] C :=
  val_no_clash (val := val C l 1) (val_neg _ _ _) (fun x hx => by rw [val_lit h hs _ (hs x hx)]; exact decide_eq_true hx) (fun x hx => (h.rng x (hs x hx)).1) (by simp) (by simp)

theorem s_rng {n k i j : Nat} (h1 : 1 ≤ i) (h2 : i + 1 ≤ n) (h3 : 1 ≤ j) (h4 : j ≤ k) : 61 ≤ s 61 k i j ∧ s 61 k i j ≤ 60 + ((n : Int) - 1) * k := by
  rw [s_nat h1 h3, show ((n : Int) - 1) * k = (((n - 1) * k : Nat) : Int) by rw [Int.natCast_mul]; congr 1; omega]
  have : (i - 1) * k + k ≤ (n - 1) * k := by
    rw [← Nat.succ_mul]
    exact Nat.mul_le_mul_right _ (by omega)
  omega
theorem cl_rng {l : List Int} (h : Fit l) {k : Nat} (hk : 1 ≤ k) (hlt : k < l.length) {c : List Int} (hc : Cl l 61 k c) : ∀ x ∈ c, -(60 + ((l.length : Int) - 1) * k) ≤ x ∧ x ≤ 60 + ((l.length : Int) - 1) * k := by
  intro x hx
  have hl : ∀ i, i < l.length → -(60 + ((l.length : Int) - 1) * k) ≤ -(l.getD i 0) ∧ -(l.getD i 0) ≤ 60 + ((l.length : Int) - 1) * k := fun i hi => by
    have h1 := h.rng _ (getD_mem0 hi)
    have h2 : 0 ≤ ((l.length : Int) - 1) * k := Int.mul_nonneg (by omega) (by omega)
    omega
  cases hc with
  | a i h1 =>
    simp only [List.mem_cons, List.not_mem_nil, or_false] at hx
    rcases hx with rfl | rfl
    · exact hl i (by omega)
    · have := s_rng (n := l.length) (k := k) (i := i + 1) (j := 1) (by omega) (by omega) (by omega) hk; omega
  | b j h1 =>
    simp only [List.mem_cons, List.not_mem_nil, or_false] at hx
    subst hx
    have := s_rng (n := l.length) (k := k) (i := 1) (j := j + 2) (by omega) (by omega) (by omega) (by omega); omega
  | c i j h1 h2 h3 h4 =>
    simp only [List.mem_cons, List.not_mem_nil, or_false] at hx
    rcases hx with rfl | rfl
    · have := s_rng (n := l.length) (k := k) h1 (by omega) h3 h4; omega
    · have := s_rng (n := l.length) (k := k) (i := i + 1) (by omega) (by omega) h3 h4; omega
  | d i j h1 h2 h3 h4 =>
    simp only [List.mem_cons, List.not_mem_nil, or_false] at hx
    rcases hx with rfl | rfl | rfl
    · exact hl i (by omega)
    · have := s_rng (n := l.length) (k := k) h1 (by omega) h3 (by omega); omega
    · have := s_rng (n := l.length) (k := k) (i := i + 1) (j := j + 1) (by omega) (by omega) (by omega) h4; omega
  | e i h1 h2 =>
    simp only [List.mem_cons, List.not_mem_nil, or_false] at hx
    rcases hx with rfl | rfl
    · exact hl i (by omega)
    · have := s_rng (n := l.length) (k := k) h1 (by omega) hk (Nat.le_refl _); omega
theorem all_rng {l : List Int} (h : Fit l) (k : Nat) (hlt : k < l.length) : ∀ c ∈ clausesL l k 61, ∀ x ∈ c, -(60 + helpersI l.length k) ≤ x ∧ x ≤ 60 + helpersI l.length k := by
  unfold helpersI
  by_cases hk : k = 0
  · subst hk
    rw [if_pos (.inl rfl)]
    unfold clausesL
    rw [if_pos rfl]
    intro c hc x hx
    obtain ⟨y, hy, rfl⟩ := List.mem_map.1 hc
    rw [List.mem_singleton.1 hx]
    have := h.rng y hy
    omega
  · rw [if_neg (by omega)]
    exact fun c hc => cl_rng h (by omega) hlt (cl_of (by omega) hlt hc)
theorem helpers_rng (n k : Nat) (hn : n ≤ 60) (hk : k ≤ 60) : 0 ≤ helpersI n k ∧ helpersI n k ≤ 3600 := by
  unfold helpersI
  split
  · omega
  · have h1 : 0 ≤ ((n : Int) - 1) * k := Int.mul_nonneg (by omega) (by omega)
    have h2 : ((n : Int) - 1) * k ≤ 60 * 60 := Int.mul_le_mul (by omega) (by omega) (by omega) (by omega)
    omega
theorem flat_len {α β : Type} (g : α → List β) (B : Nat) : ∀ (xs : List α), (∀ x ∈ xs, (g x).length ≤ B) → (xs.flatMap g).length ≤ xs.length * B
  | [], _ => by simp
  | x :: t, h => by
    rw [List.flatMap_cons, List.length_append, List.length_cons, Nat.succ_mul]
    have := h x List.mem_cons_self
    have := flat_len g B t fun y hy => h y (List.mem_cons_of_mem _ hy)
    omega
theorem cl_len {l : List Int} {f : Int} {k : Nat} {c : List Int} (hc : Cl l f k c) : c.length ≤ 3 := by cases hc <;> simp
theorem all_len {l : List Int} (hl : l.length ≤ 60) (k : Nat) (hk : k ≤ 60) (hlt : k < l.length) (f : Int) : (clausesL l k f).length ≤ 12300 ∧ ∀ c ∈ clausesL l k f, c.length ≤ 3 := by
  by_cases h0 : k = 0
  · subst h0
    unfold clausesL
    rw [if_pos rfl]
    refine ⟨by rw [List.length_map]; omega, fun c hc => ?_⟩
    obtain ⟨y, _, rfl⟩ := List.mem_map.1 hc
    simp
  · refine ⟨?_, fun c hc => cl_len (cl_of (by omega) hlt hc)⟩
    rw [clauses_eq l k f (by omega) (by omega)]
    have h1 := flat_len (rowL f k l) 200 (List.range (l.length - 2)) (fun m _ => by
      rw [row_eq]
      have := flat_len (fun h => [[-(l.getD (m + 1) 0), -(s f k (m + 1) (h + 1)), s f k (m + 2) (h + 2)], [-(s f k (m + 1) (h + 2)), s f k (m + 2) (h + 2)]]) 2 (List.range (k - 1)) (fun _ _ => by simp)
      simp only [List.length_append, List.length_cons, List.length_nil, List.length_range] at this ⊢
      omega)
    simp only [List.length_append, List.length_cons, List.length_nil, List.length_range, List.length_map] at h1 ⊢
    omega

end Go.Proofs.Ytcaoobdbgdldaaa.Atm
