/- Part of the proof of TrimRight: what the law uses of the text TrM. -/
import Derived.Test.YtfljggodnnpeiaaZRTrK
namespace Go.Proofs.Ytfljggodnnpeiaa.Trm
open Go.RowKit Go.Maps Go.Shelf Go.Proofs Go.Proofs.Ytfljggodnnpeiaa.Lit Go.Proofs.Ytfljggodnnpeiaa.Spr Go.Proofs.Ytfljggodnnpeiaa.P
open Go.Proofs.YtfljggodnnpeiaaW.PrintWords hiding own_slice own_base own_lt own_move
set_option linter.unusedVariables false
set_option linter.unusedSimpArgs false

theorem own_low {w : World} {B B' e size n : Nat} {v : Value} {xs : List Value} (h : w.ownsRow B' e size v n xs) (hB : B ≤ B') : w.ownsRow B e size v n xs :=
  ⟨h.1, h.2.imp id (fun ⟨g, cap, cur, a, b, c⟩ => ⟨g, cap, cur, a, Nat.le_trans hB b, c⟩)⟩
theorem alloc_new (w : World) (o : Obj) : (w.alloc o).heap[w.heap.size]? = some o := by
  show (w.heap.push o)[w.heap.size]? = some o
  simp
theorem alloc_old {w : World} {k : Nat} (o : Obj) (h : k < w.heap.size) : (w.alloc o).heap[k]? = w.heap[k]? := ((Below.refl w.heap.size w).alloc (Nat.le_refl _) o).block k h
theorem infoNil : (Try.prog.info? 25).map (fun i => (i.zero, i.size, i.bytes)) = some (some (.slice none 0 0), 1, 24) := by kernel_rfl
theorem made_nils (n : Nat) : (madeCells (Value.slice none 0 0).cells (n * 1)).toList = List.replicate n (.slice none 0 0) := by
  show (madeCells #[Value.slice none 0 0] (n * 1)).toList = _
  refine List.ext_getElem (by simp [madeCells]) fun i h1 h2 => ?_
  simp [madeCells, Nat.mod_one]

def Ready4 (w0 : World) (n : Nat) (all : List (List Int)) (p : Value) (w : World) : Prop := ∃ b va fs, p = .pointer (some ⟨b, 0, none⟩) ∧ w0.heap.size ≤ b ∧ w.heap[b]? = some (.cells #[.int .i64 n, va, .slice none 0 0, .slice none 0 0] 126 (0, 0)) ∧ w.ownsRow w0.heap.size 25 1 va fs.length fs ∧ va.ownBlock ≠ some b ∧ RowsAt w (fun k => k < w0.heap.size) fs all ∧ Below w0.heap.size w0 w
theorem ready4_mk {w w5 w6 : World} {fs vs : List Value} {cs added : List (List Int)} {v6 : Value} {n : Nat} {o : Obj} (hb5 : Below w.heap.size w w5) (hb6 : Below (w5.alloc o).drew.heap.size (w5.alloc o).drew w6) (ho : w6.ownsRow (w5.alloc o).drew.heap.size 25 1 v6 (fs.length + vs.length) (fs ++ vs))
    (h1 : RowsAt w5 (fun k => k < w.heap.size) fs cs) (h2 : RowsAt w5 (fun k => k < w.heap.size) vs added) : Ready4 w n (cs ++ added) (.pointer (some ⟨w6.heap.size, 0, none⟩)) (w6.alloc (.cells #[.int .i64 n, v6, .slice none 0 0, .slice none 0 0] 126)) := by
  rw [← List.length_append] at ho
  have s5 : w.heap.size ≤ w5.heap.size := hb5.size
  have sa : w5.heap.size ≤ (w5.alloc o).drew.heap.size := by show _ ≤ (w5.alloc o).heap.size; simp
  have hb : Below w.heap.size w5 w6 := ((Below.refl _ _).alloc s5 _).drew.trans (hb6.mono (Nat.le_trans s5 sa))
  have s6 : w.heap.size ≤ w6.heap.size := Nat.le_trans s5 hb.size
  have hb' : Below w.heap.size w5 (w6.alloc (.cells #[.int .i64 n, v6, .slice none 0 0, .slice none 0 0] 126)) := hb.alloc s6 _
  refine ⟨_, _, fs ++ vs, rfl, s6, alloc_new _ _, World.ownsRow.alloc (own_low ho (Nat.le_trans s5 sa)) _, fun h => ?_, (h1.append h2).below hb', hb5.trans hb'⟩
  have := (ho.lt _ h).2
  omega
def Ready6 (w0 : World) (K : KSt) (b : Nat) (w : World) : Prop := ∃ τ V, KRep w w0.heap.size b τ V K ∧ Below w0.heap.size w0 w
theorem blk7 {wc w7 : World} {o o' : Obj} {b : Nat} (hblk : wc.heap[b]? = some o) (hb7 : Below (wc.alloc o').heap.size (wc.alloc o') w7) : w7.heap[b]? = some o := by
  have hlt := (Array.getElem?_eq_some_iff.1 hblk).1
  rw [hb7.block b (by simp; omega), alloc_old _ hlt, hblk]
theorem ready6_mk {w wc w7 w8 : World} {b n N : Nat} {va v7 v8 : Value} {fs : List Value} {cs added : List (List Int)} {o' : Obj} (hn : n = cs.length) (hBb : w.heap.size ≤ b) (hblk : wc.heap[b]? = some (.cells #[.int .i64 n, va, .slice none 0 0, .slice none 0 0] 126 (0, 0))) (hown : wc.ownsRow w.heap.size 25 1 va fs.length fs) (hne : va.ownBlock ≠ some b) (hrws : RowsAt wc (fun k => k < w.heap.size) fs (cs ++ added)) (hbe : Below w.heap.size w wc)
    (hb7 : Below (wc.alloc o').heap.size (wc.alloc o') w7) (ho7 : w7.ownsRow (wc.alloc o').heap.size 4 1 v7 N (bls (List.replicate N true))) (hN : N = fs.length)
    (hg8 : (w7.setCell ⟨b, 2, none⟩ v7).grownBy w8 none) (ho8 : w8.ownsRow w7.heap.size 25 1 v8 N (List.replicate N (.slice none 0 0))) :
    Ready6 w (startK cs added) b (w8.setCell ⟨b, 3, none⟩ v8) := by
  subst hN
  have hlt := (Array.getElem?_eq_some_iff.1 hblk).1
  have sa : (wc.alloc o').heap.size = wc.heap.size + 1 := by simp
  have s7 := hb7.size
  have sw := hbe.size
  have z7 : (w7.setCell ⟨b, 2, none⟩ v7).heap.size = w7.heap.size := by simp
  have s8 := hg8.size
  have e8 : ∀ k, k < w7.heap.size → w8.heap[k]? = (w7.setCell ⟨b, 2, none⟩ v7).heap[k]? := fun k hk => hg8.block k (by rw [z7]; exact hk) (by simp)
  have o7 : ∀ k, k ≠ b → (w7.setCell ⟨b, 2, none⟩ v7).heap[k]? = w7.heap[k]? := fun k hk => Below.heap_setCell _ _ _ _ hk
  have o8 : ∀ k, k ≠ b → (w8.setCell ⟨b, 3, none⟩ v8).heap[k]? = w8.heap[k]? := fun k hk => Below.heap_setCell _ _ _ _ hk
  have a7 : ∀ k, k < wc.heap.size → w7.heap[k]? = wc.heap[k]? := fun k hk => by rw [hb7.block k (by omega), alloc_old _ hk]
  have all : ∀ k, k < wc.heap.size → k ≠ b → (w8.setCell ⟨b, 3, none⟩ v8).heap[k]? = wc.heap[k]? := fun k hk hkb => by rw [o8 k hkb, e8 k (by omega), o7 k hkb, a7 k hk]
  have k7 := row_setCell w7 b 2 v7 _ _ (blk7 hblk hb7)
  have k8 : w8.heap[b]? = _ := (e8 b (by omega)).trans k7
  have k9 := row_setCell w8 b 3 v8 _ _ k8
  have hb : Below w.heap.size wc (w8.setCell ⟨b, 3, none⟩ v8) := (((((Below.refl _ _).alloc sw o').trans (hb7.mono (by omega))).setCell hBb _).grown hg8 (by rw [z7]; omega) (fun k hk => by cases hk)).setCell hBb _
  obtain ⟨τ, V, R⟩ := kstart (B := w.heap.size) hn k9 hBb (own_move hown fun k hk => all k (own_lt hown k hk) (fun e => hne (e ▸ hk)))
    (own_low (own_move ho7 fun k hk => by
      have h1 := (ho7.lt k hk).1
      have h2 := (ho7.lt k hk).2
      rw [o8 k (by omega), e8 k h2, o7 k (by omega)]) (by omega))
    (own_low (own_move ho8 fun k hk => by
      have h1 := (ho8.lt k hk).1
      exact o8 k (by omega)) (by omega)) hne
    (fun e => by have := (ho7.lt _ e).1; omega) (fun e => by have := (ho8.lt _ e).1; omega)
    (fun k hk e => by have := (ho7.lt _ e).1; have := (hown.lt _ hk).2; omega)
    (fun k hk e => by have := (ho8.lt _ e).1; have := (hown.lt _ hk).2; omega)
    (fun k hk e => by have := (ho8.lt _ e).1; have := (ho7.lt _ hk).2; omega) (hrws.below hb)
  exact ⟨τ, V, R, hbe.trans hb⟩

def stepsL (cs : List (List Int)) : List S79 := cs.map fun c => ⟨false, c⟩
theorem coreL_succ (K : KSt) (k : Nat) : coreL K (k + 1) = if (K.inn.getD k false && decide (k < K.given)) = true then coreL K k ++ [(k : Int)] else coreL K k := by
  unfold coreL
  rw [List.range_succ, List.filter_append, List.map_append]
  split
  · rename_i h; simp only [List.filter_cons, List.filter_nil, h, if_true]; rfl
  · rename_i h; simp only [List.filter_cons, List.filter_nil, h]; simp
theorem proofL_succ (K : KSt) (k : Nat) : proofL K (k + 1) = if (K.inn.getD k false && !decide (k < K.given)) = true then proofL K k ++ [K.all.getD k []] else proofL K k := by
  unfold proofL
  rw [List.range_succ, List.filter_append, List.map_append]
  split
  · rename_i h; simp only [List.filter_cons, List.filter_nil, h, if_true]; rfl
  · rename_i h; simp only [List.filter_cons, List.filter_nil, h]; simp
theorem coreL_len (K : KSt) (k : Nat) : (coreL K k).length ≤ k := by
  unfold coreL
  rw [List.length_map]
  exact Nat.le_trans (List.length_filter_le _ _) (by simp)
theorem proofL_len (K : KSt) (k : Nat) : (stepsL (proofL K k)).length ≤ k := by
  unfold stepsL proofL
  rw [List.length_map, List.length_map]
  exact Nat.le_trans (List.length_filter_le _ _) (by simp)
theorem steps_snoc (cs : List (List Int)) (c : List Int) : stepsL (cs ++ [c]) = stepsL cs ++ [⟨false, c⟩] := by unfold stepsL; rw [List.map_append]; rfl
theorem info3K : (Try.prog.info? 3).map (fun i => (i.zero, i.size, i.bytes)) = some (some (.int .i64 0), (Kd.int .i64).sz, 8) := by kernel_rfl
theorem info79K : (Try.prog.info? 79).map (fun i => (i.zero, i.size, i.bytes)) = some (some (.agg #[.bool false, .slice none 0 0]), k79.sz, 32) := by kernel_rfl
structure Told (w0 : World) (K : KSt) (k : Nat) (v4 v5 : Value) (w : World) : Prop where
  be : Below w0.heap.size w0 w
  co : Kd.R (Kd.int .i64) 3 w w0.heap.size (fun _ => True) v4 (coreL K k)
  pr : Kd.S k79 79 w w0.heap.size (fun k_ => True ∧ some k_ ≠ v4.ownBlock) v5 (stepsL (proofL K k))
theorem Told.init (w : World) (K : KSt) : Told w K 0 (.slice none 0 0) (.slice none 0 0) w := ⟨Below.refl _ _, Kd.R_nil _ _ _ _ _, Kd.S_nil _ _ _ _ _⟩
theorem Told.forms {w0 : World} {K : KSt} {k : Nat} {v4 v5 : Value} {w : World} (h : Told w0 K k v4 v5 w) : ∃ A4 c4 A5 c5, v4 = .slice A4 (coreL K k).length c4 ∧ v5 = .slice A5 (proofL K k).length c5 := by
  obtain ⟨_, o4⟩ := Kd.R_own h.co
  obtain ⟨_, o5⟩ := Kd.S_own h.pr
  obtain ⟨A4, c4, e4⟩ := own_slice o4
  obtain ⟨A5, c5, e5⟩ := own_slice o5
  have : (stepsL (proofL K k)).length = (proofL K k).length := List.length_map _
  rw [this] at e5
  exact ⟨A4, c4, A5, c5, e4, e5⟩
theorem Told.skip {w0 : World} {K : KSt} {k : Nat} {v4 v5 : Value} {w : World} (h : Told w0 K k v4 v5 w) (hi : K.inn.getD k false = false) : Told w0 K (k + 1) v4 v5 w := by
  refine ⟨h.be, ?_, ?_⟩
  · rw [coreL_succ, hi, Bool.false_and, if_neg Bool.false_ne_true]; exact h.co
  · rw [proofL_succ, hi, Bool.false_and, if_neg Bool.false_ne_true]; exact h.pr
theorem Told.core {w0 : World} {K : KSt} {k : Nat} {v4 v5 v6 : Value} {w w6 : World} (h : Told w0 K k v4 v5 w) (hi : K.inn.getD k false = true) (hk : k < K.given) (ho : Kd.R (Kd.int .i64) 3 w6 w0.heap.size (fun _ => True) v6 (coreL K k ++ [(k : Int)])) (hb : Below w0.heap.size w0 w6) (hg : w.grownBy w6 v4.ownBlock) (hat : v6.ownBlock = v4.ownBlock ∨ ∃ b, v6.ownBlock = some b ∧ w.heap.size ≤ b) : Told w0 K (k + 1) v6 v5 w6 := by
  refine ⟨hb, ?_, ?_⟩
  · rw [coreL_succ, hi, Bool.true_and, if_pos (by simpa using hk)]; exact ho
  · rw [proofL_succ, hi, Bool.true_and, if_neg (by simpa using hk)]; exact Kd.S_after h.pr hg hat
structure Cloned (w0 : World) (K : KSt) (k : Nat) (v4 v5 v6 : Value) (c : List Int) (w : World) : Prop where
  be : Below w0.heap.size w0 w
  co : Kd.R (Kd.int .i64) 3 w w0.heap.size (fun _ => True) v4 (coreL K k)
  m : k79.M w w0.heap.size (fun q => some q = v6.ownBlock) ⟨false, c⟩ [.bool false, v6]
  okp : ∀ q, some q = v6.ownBlock → (True ∧ some q ≠ v4.ownBlock) ∧ some q ≠ v5.ownBlock
  fresh : ∀ q, w.heap.size ≤ q → True ∧ some q ≠ v4.ownBlock
  pr : Kd.S k79 79 w w0.heap.size (fun q => (True ∧ some q ≠ v4.ownBlock) ∧ ¬ some q = v6.ownBlock) v5 (stepsL (proofL K k))
theorem Told.cloned {w0 : World} {K : KSt} {k : Nat} {v4 v5 v6 : Value} {w w6 : World} {c : List Int} (h : Told w0 K k v4 v5 w) (hb : Below w.heap.size w w6) (ho : w6.ownsRow w.heap.size 3 1 v6 c.length (ints .i64 c)) : Cloned w0 K k v4 v5 v6 c w6 := by
  have hl4 := Kd.R_lt h.co
  have hl5 := Kd.S_lt h.pr
  have hs := h.be.size
  have hR : Kd.R (Kd.int .i64) 3 w6 w0.heap.size (fun q => some q = v6.ownBlock) v6 c := Kd.R_of_own (own_low ho hs) (fun k e => e.symm)
  refine ⟨h.be.trans (hb.mono hs), Kd.R_below h.co hb, P.k79_mkM _ _ _ _ hR, fun q hq => ?_, fun q hq => ⟨trivial, fun e => ?_⟩, Kd.S_elder' h.pr (fun k e => (ho.lt k e).1) hb⟩
  · have h1 := (ho.lt q hq.symm).1
    exact ⟨⟨trivial, fun e => by have := hl4 q e.symm; omega⟩, fun e => by have := hl5 q e.symm; omega⟩
  · have h1 := hl4 q e.symm
    have := hb.size
    omega
theorem Cloned.told {w0 : World} {K : KSt} {k : Nat} {v4 v5 v6 v7 : Value} {w w7 : World} (h : Cloned w0 K k v4 v5 v6 (K.all.getD k []) w) (hi : K.inn.getD k false = true) (hk : ¬ k < K.given) (ho : Kd.S k79 79 w7 w0.heap.size (fun q => True ∧ some q ≠ v4.ownBlock) v7 (stepsL (proofL K k) ++ [⟨false, K.all.getD k []⟩])) (hb : Below w0.heap.size w0 w7) (hg : w.grownBy w7 v5.ownBlock) : Told w0 K (k + 1) v4 v7 w7 := by
  refine ⟨hb, ?_, ?_⟩
  · rw [coreL_succ, hi, Bool.true_and, if_neg (by simpa using hk)]
    exact Kd.R_over' h.co (Kd.S_typed h.pr) (by decide) hg
  · rw [proofL_succ, hi, Bool.true_and, if_pos (by simpa using hk), steps_snoc]; exact ho
end Go.Proofs.Ytfljggodnnpeiaa.Trm
