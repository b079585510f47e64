/- Part of the proof of ForwardStays: what the law uses of the text FwT. -/
import Derived.Test.YtcaoobdbgdldaaaDoorZPFwR
namespace Go.Proofs.YtcaoobdbgdldaaaDoor.Fwd
open Go.RowKit Go.Shelf Go.Maps Go.Proofs.YtcaoobdbgdldaaaDoor.Lit Go.Proofs.YtcaoobdbgdldaaaDoor.Spr Go.Proofs.YtcaoobdbgdldaaaDoor.P Go.Proofs.YtcaoobdbgdldaaaDoorW.PrintWords Go.Proofs.YtcaoobdbgdldaaaDoorW.PrintLast
set_option linter.unusedVariables false
set_option linter.unusedSimpArgs false

def LeftR (w : World) (B : Nat) (v : Value) (xs : List S37) (wr : World) : Prop := ∃ rows : List (List Value), rows.length = xs.length ∧ (Kd.raw 2).R 37 wr B (fun _ => True) v rows ∧ ∀ (j : Nat) (x : S37) (c : List Value), xs[j]? = some x → rows[j]? = some c → k37.K w x c
theorem LeftR.nil (w : World) (B : Nat) (wr : World) : LeftR w B (.slice none 0 0) [] wr := ⟨[], rfl, Kd.R_nil _ _ _ _ _, fun j x c h => by simp at h⟩
theorem LeftR.keep {w wr w1 : World} {B : Nat} {v : Value} {xs : List S37} (h : LeftR w B v xs wr) (hk : KeepT wr w1) : LeftR w B v xs w1 := by
  obtain ⟨rows, h1, ⟨h0, inner, hown, hr⟩, h3⟩ := h
  refine ⟨rows, h1, ⟨h0, inner, ⟨hown.1, ?_⟩, hr⟩, h3⟩
  rcases hown.2 with h4 | ⟨g, cap, cells, e1, e2, e3, e4⟩
  · exact .inl h4
  · exact .inr ⟨g, cap, cells, e1, e2, hk g _ _ (by decide) (by decide) e3, e4⟩
theorem LeftR.typed {w wr : World} {B : Nat} {v : Value} {xs : List S37} (h : LeftR w B v xs wr) : ∀ k, v.ownBlock = some k → B ≤ k ∧ ∃ cells, wr.heap[k]? = some (.cells cells 37 (0, 0)) := by
  obtain ⟨rows, h1, ⟨h0, inner, hown, hr⟩, h3⟩ := h
  intro k hk
  rcases hown.2 with ⟨h4, _⟩ | ⟨g, cap, cells, e1, e2, e3, e4⟩
  · subst h4; cases hk
  · subst e1
    obtain rfl : g = k := by simpa [Value.ownBlock] using hk
    exact ⟨e2, cells, e3⟩
theorem LeftR.sc {w wr : World} {B : Nat} {v : Value} {xs : List S37} (h : LeftR w B v xs wr) (hb : Below w.heap.size w wr) : ∃ A c, v = .slice A xs.length c ∧ SC wr A (stp xs) := by
  obtain ⟨rows, h1, h2, h3⟩ := h
  obtain ⟨A, c, e, _, hC⟩ := Kd.R_reads h2
  refine ⟨A, c, by rw [e, h1], fun k hk => ?_⟩
  have hk' : k < xs.length := by rw [stp_len] at hk; exact hk
  obtain ⟨ad, cs, e2, _, hK, hc0⟩ := Kd.C_get hC [] (k : Int) (by omega) (by omega)
  have hc : ∀ j u, cs[j]? = some u → wr.cell? (ad.add ((k : Int).toNat * 2 + j)) = some u := hc0
  rw [Int.toNat_natCast] at hc
  obtain ⟨rfl, _⟩ := hK
  have hrk : rows[k]? = some (rows.getD (k : Int).toNat []) := by
    rw [Int.toNat_natCast, List.getD_eq_getElem?_getD, List.getElem?_eq_getElem (by omega)]; rfl
  obtain ⟨A1, c1, e3, l1, g1⟩ := k37_open (h3 k _ _ (List.getElem?_eq_getElem hk') hrk)
  rw [e3] at hc
  have e4 : (stp xs).getD k (false, []) = (xs[k].f0, xs[k].f1) := by
    unfold stp
    rw [List.getD_eq_getElem?_getD, List.getElem?_map, List.getElem?_eq_getElem hk']; rfl
  rw [e4]
  exact ⟨ad, A1, c1, e2, hc 0 _ rfl, by rw [← add_field _ _ 1 (by omega)]; exact hc 1 _ rfl, (ic_of_C g1).below hb⟩
theorem LeftR.more {w wr : World} {B : Nat} {v : Value} {xs : List S37} {rows : List (List Value)} (h1 : rows.length = xs.length) (h3 : ∀ (j : Nat) (x : S37) (c : List Value), xs[j]? = some x → rows[j]? = some c → k37.K w x c) {x : S37} {c : List Value} (hx : k37.K w x c) (h2 : (Kd.raw 2).R 37 wr B (fun _ => True) v (rows ++ [c])) : LeftR w B v (xs ++ [x]) wr := by
  refine ⟨rows ++ [c], by simp [h1], h2, fun j y d hy hd => ?_⟩
  rcases Nat.lt_trichotomy j xs.length with hj | hj | hj
  · rw [List.getElem?_append_left hj] at hy
    rw [List.getElem?_append_left (by omega)] at hd
    exact h3 j y d hy hd
  · rw [List.getElem?_append_right (by omega), hj, Nat.sub_self] at hy
    rw [List.getElem?_append_right (by omega), hj, h1, Nat.sub_self] at hd
    simp at hy hd
    subst hy hd
    exact hx
  · rw [List.getElem?_eq_none (by simp; omega)] at hy
    cases hy

theorem FwR.grownL {w0 : World} {B b m N : Nat} {F : Fw} {w w1 : World} {row : Option Nat} (h : FwR w0 B b m N F w) (hB : w0.heap.size ≤ B) (hg : w.grownBy w1 row) (hrow : ∀ k, row = some k → B ≤ k ∧ ∃ cells, w.heap[k]? = some (.cells cells 37 (0, 0))) : FwR w0 B b m N F w1 := by
  obtain ⟨v, h⟩ := h
  have hne : ∀ (g : Nat) (o : Obj), w.heap[g]? = some o → (∀ cells, o ≠ .cells cells 37 (0, 0)) → w1.heap[g]? = some o := fun g o e hn => by
    rw [hg.block g (Array.getElem?_eq_some_iff.1 e).1 (fun e2 => by
      obtain ⟨_, cells, e3⟩ := hrow g e2.symm
      rw [e] at e3
      exact hn cells (Option.some.inj e3)), e]
  have hki : KeepI w w1 := fun g cells e => hne g _ e (fun c e2 => by injection e2 with _ e2; exact absurd e2 (by decide))
  obtain ⟨es, clock, hm⟩ := h.map.lt
  refine ⟨v, hne b _ h.blk (fun c e2 => by injection e2 with _ e2; exact absurd e2 (by decide)), h.map.kept hg (fun e => ?_), h.all.keep hki (fun g hgv => ?_), h.base.grown hg h.hw (fun k hk => (hrow k hk).1), h.hb, h.hm, Nat.le_trans h.hw hg.size, h.ok, fun g cells e n1 n2 he => ?_⟩
  · obtain ⟨_, cells, e3⟩ := hrow m e.symm
    rw [hm] at e3; cases e3
  · obtain ⟨_, cells, e3⟩ := h.all.typed g hgv
    rw [hne g _ e3 (fun c e2 => by injection e2 with _ e2; exact absurd e2 (by decide)), e3]
  · have h1 := h.kp g cells e n1 n2 he
    rw [hg.block g (Array.getElem?_eq_some_iff.1 h1).1 (fun e2 => by
      have := (hrow g e2.symm).1
      have := (Array.getElem?_eq_some_iff.1 he).1
      omega), h1]
theorem FBox.grownL {w wx w1 : World} {v : Int} {sl : Value} (h : FBox w v sl wx) {row : Option Nat} (hg : wx.grownBy w1 row) (hrow : ∀ k, row = some k → w.heap.size < k) : FBox w v sl w1 := by
  refine ⟨h.below.grown hg h.below.size (fun k hk => Nat.le_of_lt (hrow k hk)), ?_⟩
  rw [hg.block _ (Array.getElem?_eq_some_iff.1 h.blk).1 (fun e => by have := hrow _ e.symm; omega)]; exact h.blk

theorem exists_first {p : Nat → Prop} (n : Nat) (h : ∃ j, j < n ∧ ¬ p j) : ∃ k, k < n ∧ (∀ j, j < k → p j) ∧ ¬ p k := by
  induction n with
  | zero => obtain ⟨j, hj, _⟩ := h; omega
  | succ n ih =>
    by_cases h2 : ∃ j, j < n ∧ ¬ p j
    · obtain ⟨k, h3, h4⟩ := ih h2
      exact ⟨k, by omega, h4⟩
    · obtain ⟨j, hj, hn⟩ := h
      have hjn : j = n := by
        rcases Nat.lt_or_ge j n with h5 | h5
        · exact absurd ⟨j, h5, hn⟩ h2
        · omega
      subst hjn
      exact ⟨j, by omega, fun i hi => Classical.byContradiction fun h6 => h2 ⟨i, hi, h6⟩, hn⟩
theorem steps_first (F : Fw) (l : List (Bool × List Int)) (h : (stepsW F 0 l).1 = 1) : ∃ K, K < l.length ∧ (∀ j, j < K → (takeW (runW F (l.take j)) (l.getD j (false, [])).1 (l.getD j (false, [])).2).1 = 0) ∧ (takeW (runW F (l.take K)) (l.getD K (false, [])).1 (l.getD K (false, [])).2).1 = 1 := by
  by_cases hall : ∀ j, j < l.length → (takeW (runW F (l.take j)) (l.getD j (false, [])).1 (l.getD j (false, [])).2).1 = 0
  · rw [steps_on F 0 l hall] at h
    cases h
  · obtain ⟨K, h1, h2, h3⟩ := exists_first (p := fun j => (takeW (runW F (l.take j)) (l.getD j (false, [])).1 (l.getD j (false, [])).2).1 = 0) l.length (Classical.byContradiction fun h4 => hall fun j hj => Classical.byContradiction fun h5 => h4 ⟨j, hj, h5⟩)
    rw [steps_stop F 0 l K h1 h2 h3] at h
    exact ⟨K, h1, h2, h⟩
theorem take_one {F : Fw} {d : Bool} {c : List Int} (h : (takeW F d c).1 = 1) : (takeW F d c).2.done = true := by
  unfold takeW at h ⊢
  cases d with
  | true =>
    simp only [↓reduceIte] at h
    split at h
    · cases h
    · split at h <;> cases h
  | false =>
    simp only [Bool.false_eq_true, ↓reduceIte] at h ⊢
    split
    · rename_i h1; rw [if_pos h1] at h; cases h
    · rename_i h1
      rw [if_neg h1] at h
      split
      · rename_i h2; rw [if_pos h2] at h; cases h
      · rename_i h2
        rw [if_neg h2] at h
        split
        · assumption
        · rename_i h3; rw [if_neg h3] at h; cases h
def lft (l : List S37) (k : Nat) : List S37 := (l.take k).filter fun s => !s.f0
theorem lft_zero (l : List S37) : lft l 0 = [] := by simp [lft]
theorem lft_succ (l : List S37) (k : Nat) (hk : k < l.length) : lft l (k + 1) = if l[k].f0 = true then lft l k else lft l k ++ [l[k]] := by
  unfold lft
  rw [List.take_add_one, List.getElem?_eq_getElem hk, Option.toList_some, List.filter_append]
  split
  · rename_i h; simp [h]
  · rename_i h; simp [h]
theorem lft_len (l : List S37) (k : Nat) : (lft l k).length ≤ l.length := Nat.le_trans (List.length_filter_le _ _) (by rw [List.length_take]; omega)
theorem lft_mem {l : List S37} {k : Nat} {s : S37} (h : s ∈ lft l k) : s ∈ l := List.mem_of_mem_take (List.mem_filter.1 h).1
theorem lft_stp (l : List S37) (k : Nat) : stp (lft l k) = ((stp l).take k).filter fun s => !s.1 := by
  unfold stp lft
  rw [← List.map_take, List.filter_map]
  rfl
theorem stp_get (l : List S37) (k : Nat) (hk : k < l.length) : (stp l).getD k (false, []) = (l[k].f0, l[k].f1) := by
  unfold stp
  rw [List.getD_eq_getElem?_getD, List.getElem?_map, List.getElem?_eq_getElem hk]; rfl
theorem rd_get (l : List S37) (k : Nat) (hk : k < l.length) : rd_T37 l (k : Int) = l[k] := by unfold rd_T37; rw [Int.toNat_natCast, List.getD_eq_getElem?_getD, List.getElem?_eq_getElem hk]; rfl
theorem rel_new (cs : List (List Int)) : Rel (newW cs) (newW cs) := ⟨(Shaped.new cs).fm, fun d h => h, Shaped.new cs, AM.new cs, new_done cs⟩

end Go.Proofs.YtcaoobdbgdldaaaDoor.Fwd
