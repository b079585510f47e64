/- Part of the proof of UnitStory: what the law uses of the text WhyR. -/
import Derived.Test.YthbccfgcemdgeaaZuQ0
import Derived.Deep.DeepAppendWide
namespace Go.Proofs.Ythbccfgcemdgeaa.Q
open Go.RowKit Go.Proofs.YthbccfgcemdgeaaW.PrintWords Go.Proofs.YthbccfgcemdgeaaW.PrintLast Go.Proofs.YthbccfgcemdgeaaW.PrintMore
set_option linter.unusedVariables false
set_option linter.unusedSimpArgs false

def RC (d : Kd S51) (e : Nat) (w : World) (base : Nat) (ok : Nat → Prop) (v : Value) (xs : List S51) : Prop :=
  ∃ A c, v = .slice A xs.length c ∧ xs.length ≤ c ∧ Kd.C d w A xs.length xs ∧ ∀ a, A = some a → base ≤ a.block ∧ ∃ cells, w.heap[a.block]? = some (.cells cells e (0, 0))
section
variable {e base base' : Nat} {w w1 W : World} {ok : Nat → Prop} {v u : Value} {xs : List S51}
theorem RC_below {d : Kd S51} (h : RC d e w base ok v xs) (hb : Below w.heap.size w w1) : RC d e w1 base ok v xs := by
  obtain ⟨A, c, h1, h2, h3, h4⟩ := h
  refine ⟨A, c, h1, h2, Kd.C_below h3 hb, fun a ha => ?_⟩
  obtain ⟨h5, cells, h6⟩ := h4 a ha
  exact ⟨h5, cells, (hb.block _ (Array.getElem?_eq_some_iff.1 h6).1).trans h6⟩
theorem RC_alloc {d : Kd S51} (h : RC d e w base ok v xs) (o : Obj) : RC d e (w.alloc o) base ok v xs := RC_below h (below_alloc (Below.refl _ _) o)
theorem RC_drew {d : Kd S51} (h : RC d e w base ok v xs) : RC d e w.drew base ok v xs := RC_below h (below_drew (Below.refl _ _))
theorem RC_drewN {d : Kd S51} (h : RC d e w base ok v xs) (m : Nat) : RC d e (w.drewN m) base ok v xs := RC_below h (pw_below_drewN (Below.refl _ _) m)
theorem RC_lower {d : Kd S51} (h : RC d e w base ok v xs) (hb : base' ≤ base) : RC d e w base' ok v xs := by
  obtain ⟨A, c, h1, h2, h3, h4⟩ := h
  exact ⟨A, c, h1, h2, h3, fun a ha => ⟨Nat.le_trans hb (h4 a ha).1, (h4 a ha).2⟩⟩
theorem RC_reads' {d : Kd S51} {A : Option Addr} {n c : Nat} (h : RC d e w base ok (.slice A n c) xs) : n = xs.length ∧ n ≤ c ∧ Kd.C d w A xs.length xs := by
  obtain ⟨A', c', h1, h2, h3, _⟩ := h
  injection h1 with e1 e2 e3
  subst e1 e2 e3
  exact ⟨rfl, h2, h3⟩
theorem RC_slice {d : Kd S51} (h : RC d e w base ok v xs) : ∃ A c, v = .slice A xs.length c := by
  obtain ⟨A, c, h1, _⟩ := h
  exact ⟨A, c, h1⟩
theorem k51_any {x : S51} {cs : List Value} (h : k51.K w x cs) : k51.K w1 x cs := by
  obtain rfl := k51_open h
  exact k51_mk w1 x
theorem RC_over' {e' : Nat} (h : RC k51 e W base ok u xs) (hty : ∀ k, v.ownBlock = some k → ∃ cells, W.heap[k]? = some (.cells cells e' (0, 0))) (ht : ∀ q, q ∈ e :: k51.E → q ≠ e') (hg : W.grownBy w1 v.ownBlock) : RC k51 e w1 base ok u xs := by
  obtain ⟨A, c, h1, h2, h3, h4⟩ := h
  have hblk : ∀ a, A = some a → w1.heap[a.block]? = W.heap[a.block]? := fun a ha => by
    obtain ⟨_, cells, h6⟩ := h4 a ha
    refine hg.block _ (Array.getElem?_eq_some_iff.1 h6).1 fun he => ?_
    obtain ⟨cells', h7⟩ := hty _ he.symm
    rw [h6] at h7
    injection h7 with h8
    injection h8 with _ h9 _
    exact ht e (by simp) h9
  refine ⟨A, c, h1, h2, ?_, fun a ha => ?_⟩
  · refine ⟨h3.1, h3.2.1, fun hn => ?_⟩
    obtain ⟨ad, e1, hc⟩ := h3.2.2 hn
    refine ⟨ad, e1, fun j p hj => ?_⟩
    obtain ⟨cs, hs, hr, hcell⟩ := hc j p hj
    refine ⟨cs, hs, k51_any hr, fun i u hu => ?_⟩
    have h6 := hcell i u hu
    have h7 : w1.heap[(ad.add (j * k51.sz + i)).block]? = W.heap[(ad.add (j * k51.sz + i)).block]? := by
      have h8 : (ad.add (j * k51.sz + i)).block = ad.block := by cases ad; simp only [Addr.add]; split <;> rfl
      rw [h8]; exact hblk ad e1
    unfold World.cell? at h6 ⊢
    rw [h7]
    exact h6
  · obtain ⟨h5, cells, h6⟩ := h4 a ha
    exact ⟨h5, cells, (hblk a ha).trans h6⟩
end

section
variable {P : Program} {ops : Array Oper} {rest : List Oper} {o : Oper} {a : Act} {Q : Exit → Act → World → Prop} {k : IntKind}
theorem R_append_wide {w0 W : World} (base : Nat) (hgd : o.guard = none) (s x : Operand) (t e : TypeId) (z : Value) (bytes : Nat)
    (ho : o.op = .call { callee := .builtin .append, args := #[s, x], argTypes := #[t, t] })
    (ht : P.underlying t = some (.slice e)) (hinfo : (P.info? e).map (fun i => (i.zero, i.size, i.bytes)) = some (some z, 1, bytes)) (hz : z.cells.size = 1) (hb0 : 0 < bytes)
    (v : Value) (xs : List Int) (p : Int) (hs : a.eval s = v) (hx : a.eval x = .slice (some ⟨W.heap.size, 0, none⟩) 1 1)
    (HO : (Kd.int k).R e W base (fun _ => True) v xs) (HB : Below base w0 W) (hbase : base ≤ W.heap.size) (hl : (xs.length + 1 + (xs.length + 1) / 4 + 192) * bytes ≤ 281474976710656)
    (h : ∀ v1 w1, (Kd.int k).R e w1 base (fun _ => True) v1 (xs ++ [p]) → Below base w0 w1 → W.grownBy w1 v.ownBlock → True → wpList P ops Q rest (a.put o.dst v1) w1) :
    wpList P ops Q (o :: rest) a (W.alloc (.cells #[.int k p] e)) := by
  obtain ⟨i0, hi, hzz⟩ := Option.map_eq_some_iff.1 hinfo
  simp only [Prod.mk.injEq] at hzz
  obtain ⟨hz0, hz1, hz2⟩ := hzz
  have hown := Kd.own_of_R HO
  have hlen : xs.length + 1 + (xs.length + 1) / 4 + 192 ≤ 281474976710656 := Nat.le_trans (Nat.le_mul_of_pos_right _ hb0) hl
  refine wpList_append_own_wide (W.alloc (.cells #[.int k p] e)) hgd s x t ho base e i0 z 1 bytes ht hi hz0 hz1 hz2 hz (by decide) v xs.length (encs (Value.int k) xs) hs (hown.alloc _) ⟨W.heap.size, 0, none⟩ 1 1 [.int k p] hx (by simp)
    (by simpa using World.news_of_block (cs := #[.int k p]) (t := e) (fr := (0, 0)) (heap_alloc_new W (.cells #[.int k p] e))) (by simp [Value.oneCell']) (by simp only [maxLen]; omega) hl (by simp; omega) ?_
  intro v1 w1 hown1 hg _
  refine h v1 w1 ?_ ((HB.alloc hbase _).grown hg (by simp; omega) (own_base hown)) (World.grownBy.trans (World.grownBy_alloc W _ _) hg) trivial
  refine Kd.R_of_own ?_ (fun _ _ => trivial)
  have e1 : encs (Value.int k) (xs ++ [p]) = encs (Value.int k) xs ++ [.int k p] := by simp [encs]
  rw [e1, List.length_append, List.length_singleton]
  exact hown1
end

end Go.Proofs.Ythbccfgcemdgeaa.Q
