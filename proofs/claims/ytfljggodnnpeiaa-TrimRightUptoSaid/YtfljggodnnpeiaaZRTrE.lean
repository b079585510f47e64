/- Part of the proof of TrimRight: what the law uses of the text TrE. -/
import Derived.Test.YtfljggodnnpeiaaZRTrC
import Derived.Maps.RangeWalk
namespace Go.Proofs.Ytfljggodnnpeiaa.Trm
open Go.RowKit Go.Maps Go.Proofs.Ytfljggodnnpeiaa.Lit Go.Proofs.Ytfljggodnnpeiaa.Spr
open Go.Proofs.YtfljggodnnpeiaaW.PrintWords hiding own_slice own_base own_lt own_move
set_option linter.unusedVariables false
set_option linter.unusedSimpArgs false

def RS (v : Value) : Option (DataW Value × List MemPlace) := match v with
  | .slice A n c => some (.held (.slice A n c), [])
  | _ => none
theorem RS_slice (A : Option Addr) (n c : Nat) : RS (.slice A n c) = some (.held (.slice A n c), []) := rfl
theorem RS_inv (v : Value) (y : DataW Value × List MemPlace) (h : RS v = some y) : ∃ q : Option Addr × Nat × Nat, v = .slice q.1 q.2.1 q.2.2 := by
  cases v <;> simp [RS] at h
  case slice A n c => exact ⟨(A, n, c), rfl⟩
structure NewsIs (D : DataW Value) (news : List (Nat × List Int)) (vs : List Value) : Prop where
  len : vs.length = news.length
  has : ∀ z : Int, Maps.has D (.int .i64 z) = news.any (fun p => decide ((p.1 : Int) = z))
  at_ : ∀ (i : Nat) (p : Nat × List Int) (v : Value), news[i]? = some p → vs[i]? = some v → ∀ zd, D.atKey (.int .i64 p.1) zd = .held v
theorem NewsIs.init : NewsIs (.map []) [] [] := ⟨rfl, fun z => rfl, fun i p v h => by simp at h⟩
theorem NewsIs.put {D : DataW Value} {news : List (Nat × List Int)} {vs : List Value} (h : NewsIs D news vs) (hD : IsMap D) {a : Nat} (ha : ∀ p ∈ news, p.1 < a) (xs : List Int) (v : Value) : NewsIs (D.put (.int .i64 a) (.held v)) (news ++ [(a, xs)]) (vs ++ [v]) := by
  refine ⟨by simp [h.len], fun z => ?_, fun i p u h1 h2 zd => ?_⟩
  · by_cases hz : z = a
    · subst hz
      rw [has_put_same hD (IsKeyLit_int _)]; simp
    · have hne : (Lit.int .i64 z) ≠ (Lit.int .i64 (a : Int)) := fun e => hz (by injection e)
      rw [has_put_other hne, h.has]
      have : ¬ ((a : Int) = z) := fun e => hz e.symm
      simp [this]
  · by_cases hi : i < news.length
    · rw [List.getElem?_append_left hi] at h1
      rw [List.getElem?_append_left (by rw [h.len]; exact hi)] at h2
      have := ha p (List.mem_of_getElem? h1)
      have hne : (Lit.int .i64 (p.1 : Int)) ≠ (Lit.int .i64 (a : Int)) := fun e => by injection e with _ e; omega
      rw [atKey_put_other hne]
      exact h.at_ i p u h1 h2 zd
    · have hl := h.len
      have hi2 : i = news.length := by
        have := (List.getElem?_eq_some_iff.1 h1).1
        rw [List.length_append, List.length_singleton] at this
        omega
      subst hi2
      rw [List.getElem?_append_right (Nat.le_refl _)] at h1
      rw [List.getElem?_append_right (by omega)] at h2
      simp [hl] at h1 h2
      subst h1 h2
      exact atKey_put_same hD (IsKeyLit_int _) _ _

def NewsR (w0 : World) (τ0 : Nat → Nat) (B b mm : Nat) (K : KSt) (news : List (Nat × List Int)) (wr : World) : Prop :=
  ∃ τ V D vs, KRep wr B b τ V K ∧ wr.ownsMap Try.prog 3 RS mm news.length D ∧ τ mm = 7 ∧ B ≤ mm ∧ NewsIs D news vs ∧ (∀ (i : Nat) (p : Nat × List Int) (v : Value), news[i]? = some p → vs[i]? = some v → IRow wr B τ 4 3 .i64 v p.2) ∧ Below B w0 wr ∧ w0.heap.size ≤ mm ∧ Stay w0 wr τ0 τ (fun s => s ≠ 2 ∧ s ≠ 3)
theorem NewsR.init {w0 w : World} {B b : Nat} {τ0 τ : Nat → Nat} {V : KV} {K : KSt} (R : KRep w B b τ V K) (hb : Below B w0 w) (h0 : Stay w0 w τ0 τ (fun s => s ≠ 2 ∧ s ≠ 3)) : NewsR w0 τ0 B b w.heap.size K [] (w.alloc (.map #[] 0)) := by
  have hs := Stay.alloc w τ (fun _ => True) (.map #[] 0) 7
  exact ⟨_, V, _, [], R.stay hs, World.ownsMap_made w _ _ _, retag_new (Nat.le_refl _), R.base, NewsIs.init, fun i p v h => by simp at h, hb.alloc R.base _, h0.size, h0.trans (hs.weaken (fun _ _ => trivial))⟩
theorem NewsR.below {w0 w w1 : World} {τ0 : Nat → Nat} {B b mm : Nat} {K : KSt} {news : List (Nat × List Int)} (h : NewsR w0 τ0 B b mm K news w) (hb : Below w.heap.size w w1) : NewsR w0 τ0 B b mm K news w1 := by
  obtain ⟨τ, V, D, vs, R, hm, ht, hB, hI, hr, hbe, h0, hs0⟩ := h
  have hs : Stay w w1 τ τ (fun _ => True) := ⟨hb.size, fun _ _ => rfl, fun k hk _ => hb.block k hk⟩
  refine ⟨τ, V, D, vs, R.stay hs, ?_, ht, hB, hI, fun i p v h1 h2 => (hr i p v h1 h2).stay hs trivial, hbe.trans (hb.mono R.base), h0, hs0.trans (hs.weaken (fun _ _ => trivial))⟩
  have hlt := hm.lt
  obtain ⟨es, clock, h1, r⟩ := hm
  exact ⟨es, clock, (hb.block mm hlt).trans h1, r⟩
theorem NewsR.put {w0 w w1 w2 : World} {τ0 : Nat → Nat} {B b mm : Nat} {K : KSt} {news : List (Nat × List Int)} {a : Nat} {v : Value} {xs : List Int} {D : DataW Value} {τ : Nat → Nat} {V : KV} {vs : List Value}
    (R : KRep w B b τ V K) (hm : w.ownsMap Try.prog 3 RS mm news.length D) (ht : τ mm = 7) (hB : B ≤ mm) (hI : NewsIs D news vs) (hr : ∀ (i : Nat) (p : Nat × List Int) (v : Value), news[i]? = some p → vs[i]? = some v → IRow w B τ 4 3 .i64 v p.2) (hbe : Below B w0 w) (h0 : w0.heap.size ≤ mm) (hs0 : Stay w0 w τ0 τ (fun s => s ≠ 2 ∧ s ≠ 3))
    (hb : Below w.heap.size w w1) (ho : w1.ownsRow w.heap.size 3 1 v (ints .i64 xs).length (ints .i64 xs)) (ha : ∀ p ∈ news, p.1 < a)
    (h2 : w2.ownsMap Try.prog 3 RS mm (news.length + 1) (D.put (.int .i64 a) (.held v))) (hg : w1.grownBy w2 (some mm)) : NewsR w0 τ0 B b mm K (news ++ [(a, xs)]) w2 := by
  have hs1 := stay_below hb τ 4
  have hv1 : IRow w1 B (retag τ w.heap.size 4) 4 3 .i64 v xs := ⟨Spr.own_lower ho R.base, fun k hk => retag_new (own_base ho k hk)⟩
  have hlt := hm.lt
  have hs2 : Stay w1 w2 (retag τ w.heap.size 4) (retag τ w.heap.size 4) (fun s => s ≠ 7) := ⟨hg.size, fun _ _ => rfl, fun k hk hT => hg.block k hk (fun e => by
    injection e with e
    subst e
    exact hT ((retag_old hlt).trans ht))⟩
  refine ⟨_, V, _, vs ++ [v], (R.stay hs1).stayT hs2 (fun s h => by omega), by rw [List.length_append]; exact h2, (retag_old hlt).trans ht, hB, hI.put hm.isMap ha xs v, fun i p u h1 h2 => ?_, hbe.trans ((hb.mono R.base).trans (below_stay hg (Nat.le_trans R.base hb.size) (fun k e => by cases e; exact hB))), h0, ⟨Nat.le_trans hs0.size (Nat.le_trans hb.size hg.size), fun k hk => (retag_old (Nat.lt_of_lt_of_le hk hs0.size)).trans (hs0.tag k hk), fun k hk hT => ((hg.block k (Nat.lt_of_lt_of_le hk (Nat.le_trans hs0.size hb.size)) (fun e => by injection e with e; omega)).trans (hb.block k (Nat.lt_of_lt_of_le hk hs0.size))).trans (hs0.blk k hk hT)⟩⟩
  by_cases hi : i < news.length
  · rw [List.getElem?_append_left hi] at h1
    rw [List.getElem?_append_left (by rw [hI.len]; exact hi)] at h2
    exact ((hr i p u h1 h2).stay hs1 trivial).stay hs2 (by omega)
  · have hl := hI.len
    have hi2 : i = news.length := by
      have := (List.getElem?_eq_some_iff.1 h1).1
      rw [List.length_append, List.length_singleton] at this
      omega
    subst hi2
    rw [List.getElem?_append_right (Nat.le_refl _)] at h1
    rw [List.getElem?_append_right (by omega)] at h2
    simp [hl] at h1 h2
    subst h1 h2
    exact hv1.stay hs2 (by omega)

def BackR (w0 : World) (τ0 : Nat → Nat) (B b mm r : Nat) (K : KSt) (news : List (Nat × List Int)) (nn cnt : Nat) (wr : World) : Prop :=
  ∃ τ V D vs left ln, KRep wr B b τ V { K with lean := ln } ∧ wr.ranges Try.prog 3 RS mm r nn D left cnt ∧ τ mm = 7 ∧ τ r = 7 ∧ NewsIs D news vs ∧ (∀ (i : Nat) (p : Nat × List Int) (v : Value), news[i]? = some p → vs[i]? = some v → IRow wr B τ 4 3 .i64 v p.2) ∧ Below B w0 wr ∧ B ≤ r ∧
    (∀ c : Nat, left (.int .i64 c) = false → ln.getD c [] = (putNews K.lean news).getD c []) ∧ (∀ z : Int, left (.int .i64 z) = true → Maps.has D (.int .i64 z) = true) ∧ w0.heap.size ≤ r ∧ Stay w0 wr τ0 τ (fun s => s ≠ 2 ∧ s ≠ 3)
theorem BackR.start {w0 w w1 : World} {τ0 : Nat → Nat} {B b mm nn : Nat} {K : KSt} {news : List (Nat × List Int)} {τ : Nat → Nat} {V : KV} {D : DataW Value} {vs : List Value} (R : KRep w B b τ V K) (ht : τ mm = 7) (hlt : mm < w.heap.size) (hI : NewsIs D news vs) (hr : ∀ (i : Nat) (p : Nat × List Int) (v : Value), news[i]? = some p → vs[i]? = some v → IRow w B τ 4 3 .i64 v p.2) (hbe : Below B w0 w) (hs0 : Stay w0 w τ0 τ (fun s => s ≠ 2 ∧ s ≠ 3))
    (hn : ∀ p ∈ news, p.1 < K.lean.length) (hp : news.Pairwise (fun p q => p.1 < q.1)) (hrg : w1.ranges Try.prog 3 RS mm w.heap.size nn D (Maps.has D) (Maps.size D)) (hg : w.grownBy w1 none) : BackR w0 τ0 B b mm w.heap.size K news nn (Maps.size D) w1 := by
  have hb : Below w.heap.size w w1 := (Below.refl _ _).grown hg (Nat.le_refl _) (fun k hk => by cases hk)
  have hs := stay_below hb τ 7
  refine ⟨_, V, D, vs, Maps.has D, K.lean, R.stay hs, hrg, (retag_old hlt).trans ht, retag_new (Nat.le_refl _), hI, fun i p v h1 h2 => (hr i p v h1 h2).stay hs trivial, hbe.trans (hb.mono R.base), R.base, fun c hc => ?_, fun z h => h, hs0.size, hs0.trans (hs.weaken (fun _ _ => trivial))⟩
  rw [hI.has, Bool.eq_false_iff] at hc
  exact ((putNews_getD news K.lean hn hp c).2 (fun p hp e => hc (List.any_eq_true.2 ⟨p, hp, decide_eq_true (by omega)⟩))).symm
theorem BackR.step {w0 w w1 : World} {τ0 : Nat → Nat} {B b mm r nn cnt' : Nat} {K : KSt} {news : List (Nat × List Int)} {τ : Nat → Nat} {V : KV} {D : DataW Value} {vs : List Value} {left : Lit → Bool} {ln : List (List Int)} {x : Int} {A : Option Addr} {n c : Nat}
    (R : KRep w B b τ V { K with lean := ln }) (ht : τ mm = 7) (htr : τ r = 7) (hI : NewsIs D news vs) (hr : ∀ (i : Nat) (p : Nat × List Int) (v : Value), news[i]? = some p → vs[i]? = some v → IRow w B τ 4 3 .i64 v p.2) (hbe : Below B w0 w) (hBr : B ≤ r)
    (hl1 : ∀ c : Nat, left (.int .i64 c) = false → ln.getD c [] = (putNews K.lean news).getD c []) (hl2 : ∀ z : Int, left (.int .i64 z) = true → Maps.has D (.int .i64 z) = true) (h0 : w0.heap.size ≤ r) (hs0 : Stay w0 w τ0 τ (fun s => s ≠ 2 ∧ s ≠ 3))
    (hn : ∀ p ∈ news, p.1 < K.all.length) (hkl : K.lean.length = K.all.length) (hp : news.Pairwise (fun p q => p.1 < q.1)) (hx : left (.int .i64 x) = true) (hat : ∀ zd, D.atKey (.int .i64 x) zd = .held (.slice A n c))
    (hrg : w1.ranges Try.prog 3 RS mm r nn D (fun z => left z && !z.sameKey (.int .i64 x)) cnt') (hg : w.grownBy w1 (some r)) :
    ∃ y : Nat, x = y ∧ y < K.all.length ∧ ∃ ga ca gi ci gl cl, KForm w1 B b τ V { K with lean := ln } ga ca gi ci gl cl ∧ BackR w0 τ0 B b mm r K news nn cnt' (w1.setCell ⟨gl, y, none⟩ (.slice A n c)) := by
  have h1 := hl2 x hx
  rw [hI.has] at h1
  obtain ⟨p, hpm, he⟩ := List.any_eq_true.1 h1
  have he := of_decide_eq_true he
  obtain ⟨i, hi, hpi⟩ := List.getElem_of_mem hpm
  have e1 : news[i]? = some p := by rw [List.getElem?_eq_getElem hi, hpi]
  have hiv : i < vs.length := by rw [hI.len]; exact hi
  have e2 : vs[i]? = some vs[i] := List.getElem?_eq_getElem hiv
  have ha2 := hI.at_ i p vs[i] e1 e2 (.held vs[i])
  rw [he, hat] at ha2
  have hv : vs[i] = .slice A n c := by injection ha2 with h; exact h.symm
  rw [hv] at e2
  have hs : Stay w w1 τ τ (fun s => s ≠ 7) := ⟨hg.size, fun _ _ => rfl, fun k hk hT => hg.block k hk (fun e => by injection e with e; subst e; exact hT htr)⟩
  have R1 := R.stayT hs (fun s h => by omega)
  have hpl := hn p hpm
  obtain ⟨ga, ca, gi, ci, gl, cl, f⟩ := R1.form (show 0 < K.all.length by omega)
  refine ⟨p.1, by omega, hpl, ga, ca, gi, ci, gl, cl, f, ?_⟩
  have hrow := (hr i p _ e1 e2).stay hs (by omega)
  have R2 := R1.set_lean f hrow p.1 hpl
  have hs3 : Stay w1 (w1.setCell ⟨gl, p.1, none⟩ (.slice A n c)) τ τ (fun s => s ≠ 3) := (Stay.refl w1 τ _).setCell _ _ (fun _ h => h f.tl)
  refine ⟨τ, _, D, vs, fun z => left z && !z.sameKey (.int .i64 x), _, R2, ?_, ht, htr, hI, fun i p v h1 h2 => ((hr i p v h1 h2).stay hs (by omega)).stay hs3 (by omega), (hbe.trans (below_stay hg R.base (fun k e => by cases e; exact hBr))).setCell (p := ⟨gl, p.1, none⟩) f.bl _, hBr, fun z hz => ?_, fun z hz => ?_, h0, ⟨Nat.le_trans hs0.size (Nat.le_trans hg.size hs3.size), fun k hk => hs0.tag k hk, fun k hk hT => ((hs3.blk k (Nat.lt_of_lt_of_le hk (Nat.le_trans hs0.size hg.size)) (by rw [hs0.tag k hk]; exact hT.2)).trans (hg.block k (Nat.lt_of_lt_of_le hk hs0.size) (fun e => by injection e with e; omega))).trans (hs0.blk k hk hT)⟩⟩
  · have hk1 : (w1.setCell ⟨gl, p.1, none⟩ (.slice A n c)).heap[mm]? = w1.heap[mm]? := Below.heap_setCell _ _ _ _ (fun e => by have h3 := f.tl; have e2 : mm = gl := e; rw [← e2, ht] at h3; omega)
    have hk2 : (w1.setCell ⟨gl, p.1, none⟩ (.slice A n c)).heap[r]? = w1.heap[r]? := Below.heap_setCell _ _ _ _ (fun e => by have h3 := f.tl; have e2 : r = gl := e; rw [← e2, htr] at h3; omega)
    obtain ⟨es, clock, since, seen, c0, q1, q2, q3, q4, q5, q6⟩ := hrg
    exact ⟨es, clock, since, seen, c0, hk1.trans q1, q2, q3, q4, hk2.trans q5, q6⟩
  · show (ln.set p.1 p.2).getD z [] = _
    have hll : p.1 < ln.length := by have : ln.length = K.all.length := R.le; omega
    rw [set_getD _ _ _ _ _ hll]
    by_cases ez : z = p.1
    · rw [if_pos ez, ez]
      exact ((putNews_getD news K.lean (fun q hq => by rw [hkl]; exact hn q hq) hp p.1).1 p hpm rfl).symm
    · rw [if_neg ez]
      refine hl1 z ?_
      have hne : (Lit.int .i64 (z : Int)).sameKey (.int .i64 x) = false := sameKey_ne (fun e => ez (by injection e with _ e; omega))
      simpa [hne] using hz
  · refine hl2 z ?_
    have hz2 : (left (.int .i64 z) && !(Lit.int .i64 z).sameKey (.int .i64 x)) = true := hz
    exact (Bool.and_eq_true_iff.1 hz2).1
def KLedS (w : World) (τ : Nat → Nat) (B b : Nat) (K : KSt) (w' : World) : Prop := ∃ τ' V', KRep w' B b τ' V' K ∧ Below B w w' ∧ Stay w w' τ τ' (fun s => s ≠ 2 ∧ s ≠ 3)
theorem BackR.done {w0 w : World} {τ0 : Nat → Nat} {B b : Nat} {K : KSt} {news : List (Nat × List Int)} {τ : Nat → Nat} {V : KV} {left : Lit → Bool} {ln : List (List Int)} (R : KRep w B b τ V { K with lean := ln }) (hbe : Below B w0 w) (hs0 : Stay w0 w τ0 τ (fun s => s ≠ 2 ∧ s ≠ 3)) (hl1 : ∀ c : Nat, left (.int .i64 c) = false → ln.getD c [] = (putNews K.lean news).getD c []) (hkl : K.lean.length = K.all.length) (h0 : ∀ kl, left kl = false) : KLedS w0 τ0 B b { K with lean := putNews K.lean news } w := by
  have e : ln = putNews K.lean news := by
    have hl : ln.length = K.all.length := R.le
    refine List.ext_getElem (by rw [putNews_len]; omega) fun i h1 h2 => ?_
    have := hl1 i (h0 _)
    rwa [List.getD_eq_getElem?_getD, List.getElem?_eq_getElem h1, List.getD_eq_getElem?_getD, List.getElem?_eq_getElem h2] at this
  rw [← e]
  exact ⟨_, _, R, hbe, hs0⟩

end Go.Proofs.Ytfljggodnnpeiaa.Trm
