/- Part of the proof of ForwardScript: what the law uses of the text FwH. -/
import Derived.Test.YtcaoobdbgdldaaaGreatDoorZPJFwF
import Derived.Sort.OwnSortedInts
namespace Go.Proofs.YtcaoobdbgdldaaaGreatDoor.Fwd
open Go.RowKit Go.Shelf Go.Maps Go.Sort Go.Proofs.YtcaoobdbgdldaaaGreatDoor.Lit Go.Proofs.YtcaoobdbgdldaaaGreatDoor.Spr
set_option linter.unusedVariables false
set_option linter.unusedSimpArgs false

theorem eq_of_getD {xs ys : List Int} (hl : xs.length = ys.length) (h : ∀ j, j < xs.length → xs.getD j 0 = ys.getD j 0) : xs = ys := by
  refine List.ext_getElem hl fun j h1 h2 => ?_
  have := h j h1
  rwa [List.getD_eq_getElem?_getD, List.getElem?_eq_getElem h1, List.getD_eq_getElem?_getD, List.getElem?_eq_getElem h2] at this
set_option maxHeartbeats 4000000 in
theorem equal_any (A1 : Option Addr) (c1 : Nat) (xs : List Int) (A2 : Option Addr) (c2 : Nat) (ys : List Int) (w : World) (h1 : IC w A1 xs) (h2 : IC w A2 ys) (hl1 : xs.length ≤ 9223372036854775807) (hl2 : ys.length ≤ 9223372036854775807) :
    Calls Tryz.prog 70 #[.slice A1 xs.length c1, .slice A2 ys.length c2] w fun e w' => e = .returned (.bool (xs == ys)) ∧ ∃ q, w' = w.drewN q := by
  have H1 := Lib.hid h1
  have H2 := Lib.hid h2
  have HY := Lib.hid (fun (hl : xs.length = ys.length) (h : ∀ j, j < xs.length → xs.getD j 0 = ys.getD j 0) => show (xs == ys) = true from beq_iff_eq.2 (eq_of_getD hl h))
  have HN := Lib.hid (fun j (hj : xs.getD j 0 ≠ ys.getD j 0) => show (xs == ys) = false from beq_false_of_ne (fun e => hj (by rw [e])))
  have HM := Lib.hid (fun (hl : xs.length ≠ ys.length) => show (xs == ys) = false from beq_false_of_ne (fun e => hl (by rw [e])))
  clear h1 h2
  generalize (xs == ys) = r at *
  generalize hn : xs.length = n at *
  generalize hm : ys.length = m at *
  have Hn := Lib.hid hn
  have Hm := Lib.hid hm
  clear hn hm
  by_cases he : n = m
  · subst he
    have hne : ((n : Int) != (n : Int)) = false := by simp
    go_enter Tryz.func70, Tryz.ntmps70
    go_wp2
    go_loopw [13] (fun i wr => ∃ k : Nat, k ≤ n ∧ i = .int .i64 k ∧ Hid (∀ j, j < k → xs.getD j 0 = ys.getD j 0) ∧ ∃ q, wr = w.drewN q) (fun i _ => n - (intOf i).toNat)
    case atStart => exact ⟨0, Nat.zero_le _, rfl, fun j hj => absurd hj (by omega), 0, rfl⟩
    case round =>
      obtain ⟨k, hk, rfl, hA, q, rfl⟩ := hrel
      by_cases hlt : k < n
      · obtain ⟨ad1, e1, hx1⟩ := H1.out k (by rw [Hn.out]; exact hlt)
        obtain ⟨ad2, e2, hx2⟩ := H2.out k (by rw [Hm.out]; exact hlt)
        subst e1 e2
        have hx1q : (w.drewN q).drew.cell? (ad1.add k) = some (.int .i64 (xs.getD k 0)) := hx1
        have hx2q : (w.drewN q).drew.cell? (ad2.add k) = some (.int .i64 (ys.getD k 0)) := hx2
        have hki : (k : Int) < (n : Int) := by omega
        have hk0 : (0 : Int) ≤ (k : Int) := by omega
        have HNk := Lib.hid (HN.out k)
        generalize hv : xs.getD k 0 = x at *
        have Hv := Lib.hid hv
        generalize hu : ys.getD k 0 = y at *
        have Hu := Lib.hid hu
        clear hv hu
        by_cases hxy : x = y
        · have hb : (x != y) = false := by simpa using hxy
          have HX := Lib.hid hxy
          clear hxy
          go_wp2
          go_region
          go_wp2
          go_roundw
          case rel =>
            refine ⟨k + 1, by omega, by go_num, fun j hj => ?_, q + 1, rfl⟩
            rcases Nat.lt_or_ge j k with h | h
            · exact hA.out j h
            · obtain rfl : j = k := by omega
              rw [Hv.out, Hu.out, HX.out]
          case measure => simp [intOf]; omega
        · have hb : (x != y) = true := by simpa using hxy
          have HX := Lib.hid hxy
          clear hxy
          go_wp2
          go_region
          go_wp2
          go_ret
          exact ⟨congrArg _ (congrArg _ (HNk.out HX.out).symm), q + 1, rfl⟩
      · obtain rfl : k = n := by omega
        go_wp2
        go_ret
        exact ⟨congrArg _ (congrArg _ (HY.out (by first | rfl | trivial) hA.out).symm), q, rfl⟩
  · have hne : ((n : Int) != (m : Int)) = true := by simpa using (show (n : Int) ≠ m by omega)
    go_enter Tryz.func70, Tryz.ntmps70
    go_wp2
    go_ret
    exact ⟨congrArg _ (congrArg _ (HM.out he).symm), 0, rfl⟩

section
variable {α : Type} [Inhabited α] {enc : α → Value}
theorem holdsE {w : World} {g : Nat} {cur : Array Value} {e : TypeId} {ss : List α} (hb : w.heap[g]? = some (.cells cur e (0, 0))) (ht : cur.toList.take ss.length = ss.map enc) : Holds enc w g 0 ss.toArray := by
  intro j hj
  have hj' : j < ss.length := by simpa using hj
  refine ⟨?_, by simp [World.frozen?, hb]⟩
  have h1 : (cur.toList.take ss.length)[j]? = (ss.map enc)[j]? := by rw [ht]
  rw [List.getElem?_take_of_lt hj'] at h1
  simp only [World.cell?, hb, Nat.zero_add]
  simp only [Option.isSome_none, Bool.false_eq_true, if_false]
  rw [← Array.getElem?_toList, h1]
  simp [hj']
theorem heapE {w : World} {g n : Nat} {os : Array Obj} {cur : Array Value} {e : TypeId} {fr : Nat × Nat} (d : Array α) (hb : w.heap[g]? = some (.cells cur e fr)) :
    (grow (putRow enc (Sort.ahead w n) g 0 d) os).heap[g]? = some (.cells (putCells enc 0 d cur) e fr) := by
  have hg : g < w.heap.size := (Array.getElem?_eq_some_iff.1 hb).1
  rw [Sort.heap_grow_old _ _ (by simpa using hg)]
  simp [putRow, mapBlock, Sort.ahead, Array.getElem?_modify, hb, onCells]
theorem grownE {w : World} {g n : Nat} {os : Array Obj} (d : Array α) : w.grownBy (grow (putRow enc (Sort.ahead w n) g 0 d) os) (some g) := by
  refine ⟨rfl, rfl, rfl, by simp, fun k hk hne => ?_⟩
  rw [Sort.heap_grow_old _ _ (by simpa using hk)]
  have : g ≠ k := fun e => hne (by rw [e])
  simp [putRow, mapBlock, Sort.ahead, Array.getElem?_modify, this]
theorem takeE (cur : Array Value) (ts : List α) (h : ts.length ≤ cur.size) : (putCells enc 0 ts.toArray cur).toList.take ts.length = ts.map enc := by
  apply List.ext_getElem?
  intro j
  by_cases hj : j < ts.length
  · rw [List.getElem?_take_of_lt hj, Array.getElem?_toList]
    simp [putCells, hj, show j < cur.size by omega]
  · rw [List.getElem?_take_eq_none (by omega), List.getElem?_eq_none (by simp; omega)]
end

structure Rw (w : World) (B : Nat) where
  v : Value
  xs : List Int
  ok : RowR w B v xs
instance (w : World) (B : Nat) : Inhabited (Rw w B) := ⟨⟨.slice none 0 0, [], World.ownsRow_nil _ _ _ _⟩⟩
theorem rows_of {w : World} {B : Nat} : ∀ (vs : List Value) (all : List (List Int)), vs.length = all.length → (∀ i, i < all.length → RowR w B (vs.getD i (.slice none 0 0)) (all.getD i [])) → ∃ rows : List (Rw w B), rows.map Rw.v = vs ∧ rows.map Rw.xs = all
  | [], [], _, _ => ⟨[], rfl, rfl⟩
  | [], _ :: _, h, _ => by simp at h
  | _ :: _, [], h, _ => by simp at h
  | v :: vs, c :: all, hl, h => by
    obtain ⟨rows, e1, e2⟩ := rows_of vs all (by simpa using hl) (fun i hi => by simpa using h (i + 1) (by simpa using hi))
    exact ⟨⟨v, c, by simpa using h 0 (by simp)⟩ :: rows, by rw [List.map_cons, e1], by rw [List.map_cons, e2]⟩
theorem allR_of {w w1 : World} {B : Nat} {v : Value} (rows : List (Rw w B)) (hk : KeepI w w1) (ho : w1.ownsRow B 40 1 v rows.length (rows.map Rw.v)) : AllR w1 B v (rows.map Rw.xs) := by
  refine ⟨rows.map Rw.v, by simp, by simpa using ho, fun i hi => ?_⟩
  have hi' : i < rows.length := by simpa using hi
  rw [List.getD_eq_getElem?_getD, List.getElem?_map, List.getD_eq_getElem?_getD, List.getElem?_map, List.getElem?_eq_getElem hi']
  exact (rows[i]).ok.keep hk

theorem entersDrop : ∀ args w, (callFunc 69 args).run Tryz.prog w = .ok (.enter 69 args) w := enters_of Tryz.func69 (by kernel_rfl) rfl
theorem givesDrop (B bx : Nat) (A1 : Option Addr) (c1 : Nat) (t : List Int) (u : Value) (xs : List Int) (W : World) (hc : W.cell? ⟨bx, 0, none⟩ = some (.slice A1 t.length c1)) (hi : IC W A1 t) (hu : RowR W B u xs) (hl : t.length ≤ 2097152) (hl2 : xs.length ≤ 9223372036854775807) :
    FnGives Tryz.prog 69 #[.pointer (some ⟨bx, 0, none⟩)] #[u] (.bool (t == xs)) W := by
  obtain ⟨A2, c2, rfl, _, hi2⟩ := hu.ic
  show Calls Tryz.prog 69 #[.slice A2 xs.length c2, .pointer (some ⟨bx, 0, none⟩)] W _
  have HE := Lib.hid (equal_any A1 c1 t A2 c2 xs W hi hi2 (by omega) hl2)
  clear hi hi2 hu
  generalize (t == xs) = r at *
  generalize t.length = n at *
  generalize xs.length = m at *
  go_enter Tryz.func69, Tryz.ntmps69
  go_wp2_with (go_at_call 70; refine HE.out.mono ?_; rintro e w2 ⟨rfl, q, rfl⟩)
  go_ret
  exact ⟨rfl, _, rfl⟩

theorem delete_rows (B bx : Nat) (A1 : Option Addr) (c1 : Nat) (t : List Int) (v : Value) (all : List (List Int)) (w : World) (hA : AllR w B v all) (hne : all ≠ []) (hall : ∀ d ∈ all, d.length ≤ 2097152) (hlen : all.length ≤ 9223372036854775807)
    (hbx : w.heap[bx]? = some (Obj.cells #[.slice A1 t.length c1] 40 (0, 0))) (hbv : v.ownBlock ≠ some bx) (hT : RowR w B (.slice A1 t.length c1) t) (hl : t.length ≤ 2097152) :
    Calls Tryz.prog 68 #[v, .func (.func 69) #[] #[.pointer (some ⟨bx, 0, none⟩)]] w fun e w' =>
      ∃ v', e = .returned v' ∧ AllR w' B v' (all.filter fun d => !(t == d)) ∧ w.grownBy w' v.ownBlock ∧ v'.ownBlock = v.ownBlock := by
  obtain ⟨vs, h1, h2, h3⟩ := hA
  obtain ⟨rows, e1, e2⟩ := rows_of vs all h1 h3
  rcases h2.2 with ⟨_, h0⟩ | ⟨g, cap, cur, rfl, hbg, hh, hnc, hcm, hcs, htk⟩
  · exact absurd (List.length_eq_zero_iff.1 h0) hne
  rw [Nat.mul_one] at htk
  have hrl : rows.length = all.length := by rw [← e2, List.length_map]
  have hgb : g ≠ bx := fun e => hbv (by rw [e]; rfl)
  have hbl : bx < w.heap.size := (Array.getElem?_eq_some_iff.1 hbx).1
  have hKI : ∀ {W : World}, w.grownBy W (some g) → KeepI w W := fun hg => .grown hg fun k e cells e3 => by
    injection e with e
    subst e
    rw [hh] at e3
    injection e3 with e3
    injection e3 with _ e3
    exact absurd e3 (by decide)
  have hrow : ∀ r ∈ rows, r.xs.length ≤ 9223372036854775807 := fun r hr => by
    have := hall r.xs (by rw [← e2]; exact List.mem_map.2 ⟨r, hr, rfl⟩)
    omega
  -- what is asked of rows that are too long for any call: they are none
  have hgive : ∀ (W : World) (r : Rw w B), KeepI w W → W.cell? ⟨bx, 0, none⟩ = some (.slice A1 t.length c1) → FnGives Tryz.prog 69 #[.pointer (some ⟨bx, 0, none⟩)] #[r.v] (.bool (t == r.xs)) W := fun W r hk hc => by
    obtain ⟨A', c', e, _, hi⟩ := (hT.keep hk).ic
    obtain rfl : A1 = A' := by injection e
    refine givesDrop B bx A1 c1 t r.v r.xs W hc hi (r.ok.keep hk) hl ?_
    rcases r.ok.2 with ⟨_, h0⟩ | ⟨_, _, _, _, _, _, h4, h5, _⟩
    · omega
    · unfold maxLen at h5; omega
  have hcell : w.cell? ⟨bx, 0, none⟩ = some (.slice A1 t.length c1) := by unfold World.cell?; rw [hbx]; rfl
  have hp : PredAt Tryz.prog 69 #[.pointer (some ⟨bx, 0, none⟩)] (fun r : Rw w B => r.v) (fun r => t == r.xs) w :=
    fun W r hb => hgive W r (.of_below hb) ((hb.cell (p := ⟨bx, 0, none⟩) hbl).trans hcell)
  have hpo : PredOver Tryz.prog 69 #[.pointer (some ⟨bx, 0, none⟩)] (fun r : Rw w B => r.v) (fun r => t == r.xs) g 0 rows.toArray.size w :=
    fun n os dk r _ => by
      have hg := grownE (w := w) (g := g) (n := n) (os := os) (enc := fun r : Rw w B => r.v) dk
      refine hgive _ r (hKI hg) ?_
      unfold World.cell?
      rw [show (sortWorld (fun r : Rw w B => r.v) w g 0 n dk os).heap[bx]? = w.heap[bx]? from hg.block bx hbl (fun e => by injection e with e; exact hgb e.symm), hbx]
      rfl
  have hH := holdsE (enc := fun r : Rw w B => r.v) (ss := rows) hh (by rw [hrl, htk, ← e1])
  have hoc : OneCell (fun r : Rw w B => r.v) := fun r => by
    obtain ⟨A', c', e, _⟩ := r.ok.ic
    show r.v.oneCell' = true
    rw [e]; rfl
  have hz : ∀ W, (zeroValue 40).run Tryz.prog W = .ok ((default : Rw w B).v) W := Tryz.zeroValue40
  have hc0 := AnyE.slices_DeleteFunc Tryz.laysDR (fun r : Rw w B => r.v) hoc (fun r => t == r.xs) 69 #[.pointer (some ⟨bx, 0, none⟩)] entersDrop default hz g 0 cap rows.toArray w hp hpo hH (by simp; omega) (by simp; omega)
  rw [← hrl]
  have hc1 : Calls Tryz.prog 68 #[.slice (some ⟨g, 0, none⟩) rows.length cap, .func (.func 69) #[] #[.pointer (some ⟨bx, 0, none⟩)]] w _ := hc0
  refine hc1.mono ?_
  rintro e w' ⟨rfl, q, rfl⟩
  generalize hkp : rows.filter (fun r => !(t == r.xs)) = kept
  have hfl : all.filter (fun d => !(t == d)) = kept.map Rw.xs := by
    rw [← hkp, ← e2, List.filter_map]; rfl
  have hle : kept.length ≤ rows.length := by rw [← hkp]; exact List.length_filter_le _ _
  have hg := grownE (w := w) (g := g) (n := q) (os := #[]) (enc := fun r : Rw w B => r.v) (kept ++ List.replicate (rows.length - kept.length) (default : Rw w B)).toArray
  have hb2 := heapE (w := w) (g := g) (n := q) (os := #[]) (enc := fun r : Rw w B => r.v) (kept ++ List.replicate (rows.length - kept.length) (default : Rw w B)).toArray hh
  rw [Sort.grow_empty] at hg hb2
  refine ⟨_, rfl, ?_, hg, rfl⟩
  rw [hfl]
  refine allR_of kept (hKI hg) ⟨by simp, .inr ⟨g, cap, _, rfl, hbg, hb2, by omega, hcm, by simp [putCells, hcs], ?_⟩⟩
  have h5 := takeE (enc := fun r : Rw w B => r.v) cur (kept ++ List.replicate (rows.length - kept.length) (default : Rw w B)) (by simp; omega)
  have h6 := congrArg (List.take kept.length) h5
  rw [List.take_take, Nat.min_eq_left (by simp), List.map_append, List.take_left' (by simp)] at h6
  rw [Nat.mul_one]
  exact h6

end Go.Proofs.YtcaoobdbgdldaaaGreatDoor.Fwd
