/- Part of the proof of TrimRight: what the law uses of the text TrK. -/
import Derived.Test.YtfljggodnnpeiaaZRTrJ
import Derived.Test.YtfljggodnnpeiaaZRJPorts
namespace Go.Proofs.Ytfljggodnnpeiaa.Trm
open Go.RowKit Go.Maps Go.Shelf Go.Proofs Go.Proofs.Ytfljggodnnpeiaa.Lit Go.Proofs.Ytfljggodnnpeiaa.Spr
open Go.Proofs.YtfljggodnnpeiaaW.PrintWords hiding own_slice own_base own_lt own_move
set_option linter.unusedVariables false
set_option linter.unusedSimpArgs false

theorem eqNil (t e : TypeId) (ht : Try.prog.underlying t = some (.slice e)) (w : World) (a : Option Addr) (n c n' c' : Nat) : (binOp .eql t (.slice a n c) (.slice none n' c')).run Try.prog w = .ok (.bool a.isNone) w := Lib.run_eql_slice_nil w _ _ a n c n' c' ht
def ClonePost (w : World) (xs : List Int) (e : Ending) (w' : World) : Prop := Below w.heap.size w w' ∧ ∃ v', e = .returned v' ∧ w'.ownsRow w.heap.size 3 1 v' xs.length (ints .i64 xs)
theorem infoN : (Try.prog.info? 3).map (fun i => (i.zero, i.size, i.bytes)) = some (some (.int .i64 0), 1, 8) := by kernel_rfl
set_option maxHeartbeats 2000000 in
theorem clone_any (A : Option Addr) (c : Nat) (xs : List Int) (w : World) (h : IC w A xs) (hl : xs.length ≤ 4194304) :
    Calls Try.prog 98 #[.slice A xs.length c] w (ClonePost w xs) := by
  obtain ⟨i0, hi, hz0, hz1, hz2⟩ := info_parts infoN
  have q22 := eqNil 25 3 Try.underlying25
  cases A with
  | none =>
    have hx : xs = [] := by
      cases xs with
      | nil => rfl
      | cons x t => obtain ⟨ad, e, _⟩ := h 0 (by simp); cases e
    subst hx
    clear h
    go_enter Try.func98, Try.ntmps98
    go_wp2
    go_ret
    exact ⟨Below.refl _ _, _, rfl, World.ownsRow_nil _ _ _ _⟩
  | some ad =>
    have A : Aside (∀ j u, (ints .i64 xs)[j]? = some u → w.cell? (ad.add j) = some u) := fun j u e => by
      have hj : j < xs.length := by
        have := (List.getElem?_eq_some_iff.1 e).1
        simpa [ints] using this
      obtain ⟨ad', e', hc⟩ := h j hj
      cases e'
      rw [hc]
      simp only [ints, List.getElem?_map, List.getElem?_eq_getElem hj, Option.map_some, Option.some.injEq] at e
      rw [← e, List.getD_eq_getElem?_getD, List.getElem?_eq_getElem hj]; rfl
    have h1c : ∀ u ∈ ints .i64 xs, u.oneCell' = true := fun u hu => by
      obtain ⟨x, _, rfl⟩ := List.mem_map.1 hu
      rfl
    have hlen : (ints .i64 xs).length = xs.length := by simp [ints]
    clear h
    unfold ClonePost
    generalize ints .i64 xs = ys at *
    generalize hn : xs.length = n at *
    go_enter Try.func98, Try.ntmps98
    go_wp2_with (at_builtin; refine wpList_append_own _ rfl _ _ 25 rfl w.heap.size 3 i0 (.int .i64 0) 1 8 Try.underlying25 hi hz0 hz1 hz2 rfl (by decide) _ _ _ rfl (World.ownsRow_made w #[] 0 (Nat.le_refl _) (Nat.zero_le _) (by simp)) ad n c ys rfl ?qc1 ?qc2 ?qc3 ?qc4 ?qc5 ?qc6 ?_)
    case qc1 => omega
    case qc2 =>
      intro j u hj
      exact Lib.cell?_alloc_some _ (A.out j u hj)
    case qc3 => exact h1c
    case qc4 => unfold maxLen; omega
    case qc5 => omega
    case qc6 => simp
    intro v' w1 hown hgrow hnil
    go_wp2
    go_ret
    exact ⟨((Below.refl _ w).alloc (Nat.le_refl _) _).grown hgrow (by simp) (by intro k hk; simp [Value.ownBlock] at hk; omega), v', rfl, by simpa using hown⟩

def cellsOf (w : World) (A : Option Addr) (n : Nat) : List Value := (List.range n).map fun k => match A with
  | some ad => (w.cell? (ad.add k)).getD (.slice none 0 0)
  | none => .slice none 0 0
theorem rows_of_C {w : World} {A : Option Addr} {cs : List (List Int)} (h : Kd.C (Kd.slice 3 (Kd.int .i64)) w A cs.length cs) : VC w A (cellsOf w A cs.length) ∧ (cellsOf w A cs.length).length = cs.length ∧ RowsAt w (fun k => k < w.heap.size) (cellsOf w A cs.length) cs := by
  have hl : (cellsOf w A cs.length).length = cs.length := by simp [cellsOf]
  have key : ∀ k, k < cs.length → ∃ ad A1 c1, A = some ad ∧ w.cell? (ad.add k) = some (.slice A1 (cs.getD k []).length c1) ∧ (cs.getD k []).length ≤ c1 ∧ Kd.C (Kd.int .i64) w A1 (cs.getD k []).length (cs.getD k []) := fun k hk => by
    obtain ⟨_, _, h3⟩ := h
    obtain ⟨ad, e, hc⟩ := h3 (by omega)
    obtain ⟨c, hs, hr, hcell⟩ := hc k cs[k] (List.getElem?_eq_getElem hk)
    obtain ⟨A1, c1, rfl, hl1, hr1⟩ := hr
    have e2 : cs.getD k [] = cs[k] := by rw [List.getD_eq_getElem?_getD, List.getElem?_eq_getElem hk]; rfl
    rw [e2]
    have := hcell 0 _ rfl
    refine ⟨ad, A1, c1, e, ?_, hl1, hr1⟩
    rw [← this]
    congr 1
    simp [Kd.slice]
  have kc : ∀ k, k < cs.length → ∃ A1 c1, (cellsOf w A cs.length)[k]? = some (.slice A1 (cs.getD k []).length c1) ∧ (cs.getD k []).length ≤ c1 ∧ Kd.C (Kd.int .i64) w A1 (cs.getD k []).length (cs.getD k []) := fun k hk => by
    obtain ⟨ad, A1, c1, rfl, h1, h2, h3⟩ := key k hk
    refine ⟨A1, c1, ?_, h2, h3⟩
    simp [cellsOf, List.getElem?_range hk, h1]
  refine ⟨fun k hk => ?_, hl, hl, fun k hk => ?_⟩
  · rw [hl] at hk
    obtain ⟨ad, A1, c1, e, h1, _⟩ := key k hk
    refine ⟨ad, e, ?_⟩
    subst e
    rw [List.getD_eq_getElem?_getD, h1]
    simp [cellsOf, List.getElem?_range hk, h1]
  · obtain ⟨A1, c1, h1, h2, h3⟩ := kc k hk
    exact ⟨A1, c1, h1, h2, fun W' hW => (Kd.heap_int .i64).C (fun k hk => hW k hk hk) h3⟩
theorem RowsAt.append {w : World} {ok : Nat → Prop} {us vs : List Value} {cs ds : List (List Int)} (h : RowsAt w ok us cs) (h' : RowsAt w ok vs ds) : RowsAt w ok (us ++ vs) (cs ++ ds) := by
  refine ⟨by simp [h.1, h'.1], fun i hi => ?_⟩
  by_cases hlt : i < cs.length
  · obtain ⟨A2, c2, h1, h2, h3⟩ := h.2 i hlt
    have e : (cs ++ ds).getD i [] = cs.getD i [] := by rw [List.getD_eq_getElem?_getD, List.getElem?_append_left hlt, List.getD_eq_getElem?_getD]
    rw [e]
    exact ⟨A2, c2, by rw [List.getElem?_append_left (by rw [h.1]; exact hlt)]; exact h1, h2, h3⟩
  · have hj : i - cs.length < ds.length := by simp at hi; omega
    obtain ⟨A2, c2, h1, h2, h3⟩ := h'.2 _ hj
    have e : (cs ++ ds).getD i [] = ds.getD (i - cs.length) [] := by rw [List.getD_eq_getElem?_getD, List.getElem?_append_right (by omega), List.getD_eq_getElem?_getD]
    rw [e]
    exact ⟨A2, c2, by rw [List.getElem?_append_right (by rw [h.1]; omega), h.1]; exact h1, h2, h3⟩
theorem own_vc {w : World} {B : Nat} {A : Option Addr} {c : Nat} {vs : List Value} {t : TypeId} (h : w.ownsRow B t 1 (.slice A vs.length c) vs.length vs) : VC w A vs := fun k hk => by
  have hr : Row w B (fun _ => 0) 0 t (.slice A vs.length c) vs := ⟨h, fun _ _ => rfl⟩
  obtain ⟨g, c', h1, _, _, _, _, hcell, _⟩ := hr.form (by omega)
  injection h1 with hA
  refine ⟨⟨g, 0, none⟩, hA, ?_⟩
  rw [show (⟨g, 0, none⟩ : Addr).add k = ⟨g, k, none⟩ by unfold Addr.add; split <;> simp_all]
  refine hcell k _ ?_
  rw [List.getD_eq_getElem?_getD, List.getElem?_eq_getElem hk]; rfl
theorem rowsAt_one {w : World} {ok : Nat → Prop} {vs : List Value} {cs : List (List Int)} (h : RowsAt w ok vs cs) : ∀ u ∈ vs, u.oneCell' = true := fun u hu => by
  obtain ⟨i, hi, rfl⟩ := List.getElem_of_mem hu
  obtain ⟨A, c, h1, _⟩ := h.2 i (by rw [← h.1]; exact hi)
  rw [List.getElem?_eq_getElem hi] at h1
  injection h1 with h1
  rw [h1]; rfl
theorem two_new (w : World) (x y : Value) (t : TypeId) : (w.alloc (.cells #[x, y] t)).cell? ((⟨w.heap.size, 0, none⟩ : Addr).add 0) = some x ∧ (w.alloc (.cells #[x, y] t)).cell? ((⟨w.heap.size, 0, none⟩ : Addr).add 1) = some y := by
  rw [Addr.add_lit, Addr.add_lit]
  exact ⟨by simp, by simp⟩
theorem rv_two {w : World} {A A2 : Option Addr} {n c n2 c2 : Nat} {fs vs : List Value} (h : VC w A fs) (h' : VC w A2 vs) (hn : n = fs.length) (hn2 : n2 = vs.length) (o1 : ∀ u ∈ fs, u.oneCell' = true) (o2 : ∀ u ∈ vs, u.oneCell' = true) {t : TypeId} :
    RV (w.alloc (.cells #[.slice A n c, .slice A2 n2 c2] t)) (some ⟨w.heap.size, 0, none⟩) [fs, vs] := by
  subst hn hn2
  have hb : Below w.heap.size w (w.alloc (.cells #[.slice A fs.length c, .slice A2 vs.length c2] t)) := (Below.refl _ _).alloc (Nat.le_refl _) _
  intro k hk
  have h2 := two_new w (.slice A fs.length c) (.slice A2 vs.length c2) t
  match k, hk with
  | 0, _ => exact ⟨_, A, c, rfl, h2.1, h.below hb, o1⟩
  | 1, _ => exact ⟨_, A2, c2, rfl, h2.2, h'.below hb, o2⟩

theorem adds_len : ∀ l : List (Bool × List Int), ((addsL l).getD []).length ≤ l.length
  | [] => by simp [addsL]
  | s :: t => by
    have ih := adds_len t
    rw [addsL_cons]
    split
    · rw [List.length_cons]; omega
    · split
      · simp
      · cases h : addsL t with
        | none => simp
        | some r => rw [h] at ih; simp at ih ⊢; exact ih
theorem adds_mem : ∀ l : List (Bool × List Int), ∀ c ∈ (addsL l).getD [], ∃ s ∈ l, s.2 = c
  | [], c, h => by simp [addsL] at h
  | s :: t, c, h => by
    have ih := adds_mem t c
    rw [addsL_cons] at h
    split at h
    · obtain ⟨x, hx, e⟩ := ih h; exact ⟨x, by simp [hx], e⟩
    · split at h
      · rename_i h0
        simp at h
        exact ⟨s, by simp, by rw [h0, h]⟩
      · cases hr : addsL t with
        | none => rw [hr] at h; simp at h
        | some r =>
          rw [hr] at h ih
          change c ∈ s.2 :: r at h
          change c ∈ r → _ at ih
          rcases List.mem_cons.1 h with e | h
          · exact ⟨s, by simp, e.symm⟩
          · obtain ⟨x, hx, e⟩ := ih h; exact ⟨x, List.mem_cons_of_mem _ hx, e⟩
theorem adds_pos : ∀ (l : List (Bool × List Int)) (r : List (List Int)), addsL l = some r → 0 < r.length
  | [], r, h => by cases h
  | s :: t, r, h => by
    rw [addsL_cons] at h
    split at h
    · exact adds_pos t r h
    · split at h
      · cases h; simp
      · cases hr : addsL t with
        | none => rw [hr] at h; cases h
        | some q => rw [hr] at h; cases h; simp
theorem repeat_all (g : Nat) (n : Nat) (w : World) (hx : w.cell? ⟨g, 0, none⟩ = some (.bool true)) (hn : n ≤ 4194304) :
    Calls Try.prog 95 #[.slice (some ⟨g, 0, none⟩) 1 1, .int .i64 n] w (RepPost w n) := by
  by_cases h : n = 0
  · subst h; exact repeat_zero g w
  · exact repeat_any g n w hx (by omega) hn
open Classical in
theorem kstart {w : World} {B b n : Nat} {va vi vl : Value} {fs : List Value} {cs added : List (List Int)} (hn : n = cs.length)
    (blk : w.heap[b]? = some (.cells #[.int .i64 n, va, vi, vl] 126 (0, 0))) (hb : B ≤ b)
    (oa : w.ownsRow B 25 1 va fs.length fs) (oi : w.ownsRow B 4 1 vi fs.length (bls (List.replicate fs.length true))) (ol : w.ownsRow B 25 1 vl fs.length (List.replicate fs.length (.slice none 0 0)))
    (na : va.ownBlock ≠ some b) (ni : vi.ownBlock ≠ some b) (nl : vl.ownBlock ≠ some b) (nai : ∀ k, va.ownBlock = some k → vi.ownBlock ≠ some k) (nal : ∀ k, va.ownBlock = some k → vl.ownBlock ≠ some k) (nil : ∀ k, vi.ownBlock = some k → vl.ownBlock ≠ some k)
    (hr : RowsAt w (fun k => k < B) fs (cs ++ added)) : ∃ τ V, KRep w B b τ V (startK cs added) := by
  subst hn
  have hN := hr.1
  refine ⟨fun k => if k = b then 0 else if vi.ownBlock = some k then 2 else if vl.ownBlock = some k then 3 else 1, ⟨va, vi, vl, fs, List.replicate fs.length (.slice none 0 0)⟩, ⟨blk, hb, if_pos rfl, ⟨oa, fun k hk => ?_⟩, hr, ⟨?_, fun k hk => ?_⟩, ⟨?_, fun k hk => ?_⟩, ?_, ?_, ?_, fun i v c h1 h2 => ?_, fun k hk => ?_⟩⟩
  · show (if k = b then 0 else if vi.ownBlock = some k then 2 else if vl.ownBlock = some k then 3 else 1) = 1
    rw [if_neg (fun e : k = b => na (e ▸ hk)), if_neg (nai k hk), if_neg (nal k hk)]
  · show w.ownsRow B _ 1 vi (bls (List.replicate _ true)).length (bls (List.replicate _ true))
    rw [bls_len, List.length_replicate, ← hN]; exact oi
  · show (if k = b then 0 else if vi.ownBlock = some k then 2 else if vl.ownBlock = some k then 3 else 1) = 2
    rw [if_neg (fun e : k = b => ni (e ▸ hk)), if_pos hk]
  · show w.ownsRow B _ 1 vl (List.replicate _ _).length (List.replicate _ _)
    rw [List.length_replicate]; exact ol
  · show (if k = b then 0 else if vi.ownBlock = some k then 2 else if vl.ownBlock = some k then 3 else 1) = 3
    rw [if_neg (fun e : k = b => nl (e ▸ hk)), if_neg (fun e => nil k e hk), if_pos hk]
  · show (List.replicate _ _).length = _
    rw [List.length_replicate, hN]; rfl
  · show (List.replicate _ _).length = _
    rw [List.length_replicate]; rfl
  · show (List.replicate _ _).length = _
    rw [List.length_replicate]; rfl
  · have e1 : v = .slice none 0 0 := by
      have := List.mem_of_getElem? h1
      exact (List.mem_replicate.1 this).2
    have e2 : c = [] := by
      have := List.mem_of_getElem? h2
      exact (List.mem_replicate.1 this).2
    subst e1 e2
    exact ⟨World.ownsRow_nil _ _ _ _, fun k hk => by cases hk⟩
  · show (if k = b then 0 else if vi.ownBlock = some k then 2 else if vl.ownBlock = some k then 3 else 1) = 1
    rw [if_neg (by omega), if_neg (fun e => ?_), if_neg (fun e => ?_)]
    · have := (ol.lt k e).1; omega
    · have := (oi.lt k e).1; omega
end Go.Proofs.Ytfljggodnnpeiaa.Trm
