/- Part of the proof of TrimNumbers: what the law uses of the text Without. -/
import Derived.Test.YtfljggodnnpeiaaZNUD
import Derived.Test.YtfljggodnnpeiaaZNShelfB
namespace Go.Proofs.Ytfljggodnnpeiaa.Spr
open Go.RowKit Go.Maps Go.Proofs.Ytfljggodnnpeiaa.Lit Go.Shelf Go.Proofs
set_option linter.unusedVariables false

def idxI (l : Int) (xs : List Int) : Int := if xs.contains l = true then (xs.idxOf l : Int) else -1
theorem idx_at {l : Int} {xs : List Int} {k : Nat} (hk : k < xs.length) (h : ∀ j, j < k → xs.getD j 0 ≠ l) (he : xs.getD k 0 = l) : idxI l xs = k := by
  have e : xs[k] = l := by rw [← he, List.getD_eq_getElem?_getD, List.getElem?_eq_getElem hk]; rfl
  have hm : l ∈ xs := e ▸ List.getElem_mem _
  unfold idxI
  rw [if_pos (by simpa using hm)]
  have h1 := List.idxOf_lt_length_of_mem hm
  have h2 := List.getElem_idxOf h1
  rcases Nat.lt_trichotomy (xs.idxOf l) k with c | c | c
  · exact absurd (by rw [List.getD_eq_getElem?_getD, List.getElem?_eq_getElem h1]; exact h2) (h _ c)
  · rw [c]
  · have := List.not_of_lt_findIdx (p := (· == l)) (xs := xs) (i := k) c
    simp [e] at this
theorem idx_no {l : Int} {xs : List Int} (h : ∀ j, j < xs.length → xs.getD j 0 ≠ l) : idxI l xs = -1 := by
  unfold idxI
  rw [if_neg]
  intro hm
  obtain ⟨j, hj, e⟩ := List.mem_iff_getElem.1 (show l ∈ xs by simpa using hm)
  exact h j hj (by rw [List.getD_eq_getElem?_getD, List.getElem?_eq_getElem hj]; exact e)
theorem idx_ge (l : Int) (xs : List Int) : decide (idxI l xs ≥ 0) = xs.contains l := by
  unfold idxI
  split
  · rename_i h; rw [h]; exact decide_eq_true (by omega)
  · rename_i h; rw [Bool.eq_false_iff.2 h]; exact decide_eq_false (by omega)

set_option maxHeartbeats 1000000 in
theorem index_of (A : Option Addr) (c : Nat) (xs : List Int) (l : Int) (w : World) (hC : IC w A xs) (hl : xs.length ≤ 9223372036854775807) :
    Calls Try.prog 147 #[.slice A xs.length c, .int .i64 l] w fun e w' => e = .returned (.int .i64 (idxI l xs)) ∧ w = w' := by
  have HC := Lib.hid hC
  have HAt := Lib.hid (fun k (hk : k < xs.length) (h : ∀ j, j < k → xs.getD j 0 ≠ l) (he : xs.getD k 0 = l) => idx_at hk h he)
  have HNo := Lib.hid (fun (h : ∀ j, j < xs.length → xs.getD j 0 ≠ l) => idx_no h)
  clear hC
  generalize hn : xs.length = n at *
  have Hn := Lib.hid hn
  clear hn
  generalize idxI l xs = R at *
  go_enter Try.func147, Try.ntmps147
  go_wp2
  go_loop [8] (fun i => ∃ k : Nat, k ≤ n ∧ i = .int .i64 k ∧ Hid (∀ j, j < k → xs.getD j 0 ≠ l)) (fun i => n - (intOf i).toNat)
  case atStart => exact ⟨0, Nat.zero_le _, rfl, fun j hj => absurd hj (by omega)⟩
  case round =>
    obtain ⟨k, hk, rfl, hA⟩ := hrel
    by_cases hlt : k < n
    · obtain ⟨ad, hA1, hx⟩ := HC.out k (by rw [Hn.out]; exact hlt)
      subst hA1
      have HAk := Lib.hid (HAt.out k hlt hA.out)
      generalize hv : xs.getD k 0 = x at *
      have Hv := Lib.hid hv
      clear hv
      by_cases he : l = x
      · have heb : (l == x) = true := by simpa using he
        have HE := Lib.hid (HAk.out he.symm)
        have HX := Lib.hid he
        clear he
        go_wp2
        go_ret
        exact ⟨by rw [HE.out]; rfl, rfl⟩
      · have heb : (l == x) = false := by simpa using he
        have HX := Lib.hid he
        clear he
        go_wp2
        go_round
        case rel =>
          refine ⟨k + 1, by omega, by go_num, fun j hj => ?_⟩
          rcases Nat.lt_or_ge j k with h | h
          · exact hA.out j h
          · obtain rfl : j = k := by omega
            rw [Hv.out]; exact fun h => HX.out h.symm
        case measure => simp [intOf]; omega
    · obtain rfl : k = n := by omega
      have HE := Lib.hid (HNo.out hA.out)
      go_wp2
      go_ret
      exact ⟨by rw [HE.out]; rfl, rfl⟩

theorem contains_of (A : Option Addr) (c : Nat) (xs : List Int) (l : Int) (w : World) (hC : IC w A xs) (hl : xs.length ≤ 9223372036854775807) :
    Calls Try.prog 125 #[.slice A xs.length c, .int .i64 l] w fun e w' => e = .returned (.bool (xs.contains l)) ∧ w = w' := by
  have HI := Lib.hid (index_of A c xs l w hC hl)
  have HG := Lib.hid (idx_ge l xs)
  clear hC
  generalize xs.length = n at *
  generalize idxI l xs = R at *
  generalize xs.contains l = b at *
  go_enter Try.func125, Try.ntmps125
  go_wp2_with (go_at_call 147; refine HI.out.mono ?_; rintro e w' ⟨rfl, rfl⟩)
  go_ret
  exact ⟨by rw [← HG.out]; rfl, rfl⟩

theorem gives_without (l x : Int) (B : Nat) (W : World) (hc : W.cell? ⟨B, 0, none⟩ = some (.int .i64 l)) :
    FnGives Try.prog 145 #[.pointer (some ⟨B, 0, none⟩)] #[.int .i64 x] (.bool (decide (x = l))) W := by
  show Calls Try.prog 145 #[.int .i64 x, .pointer (some ⟨B, 0, none⟩)] W _
  by_cases h : x = l
  · have hb : (x == l) = true := by simpa using h
    have HD := Lib.hid (decide_eq_true h)
    clear h
    go_enter Try.func145, Try.ntmps145
    go_wp2
    go_ret
    exact ⟨by rw [HD.out]; rfl, 0, rfl⟩
  · have hb : (x == l) = false := by simpa using h
    have HD := Lib.hid (decide_eq_false h)
    clear h
    go_enter Try.func145, Try.ntmps145
    go_wp2
    go_ret
    exact ⟨by rw [HD.out]; rfl, 0, rfl⟩
theorem enters124 : ∀ args w, (callFunc 145 args).run Try.prog w = .ok (.enter 145 args) w := enters_of Try.func145 (by kernel_rfl) rfl
theorem pred124 (l : Int) (B : Nat) (w : World) (hB : B < w.heap.size) (hcell : w.cell? ⟨B, 0, none⟩ = some (.int .i64 l)) :
    PredAt Try.prog 145 #[.pointer (some ⟨B, 0, none⟩)] (Value.int .i64) (fun x => decide (x = l)) w :=
  fun W x hb => gives_without l x B W ((hb.cell (p := ⟨B, 0, none⟩) hB).trans hcell)
theorem over124 (l : Int) (B blk off size : Nat) (w : World) (hB : B < w.heap.size) (hne : B ≠ blk) (hcell : w.cell? ⟨B, 0, none⟩ = some (.int .i64 l)) :
    PredOver Try.prog 145 #[.pointer (some ⟨B, 0, none⟩)] (Value.int .i64) (fun x => decide (x = l)) blk off size w :=
  fun n os dk x _ => gives_without l x B _ (by
    unfold sortWorld
    rw [Sort.cell?_grow _ _ _ (by show B < (Sort.putRow _ _ _ _ _).heap.size; rw [Sort.size_putRow]; exact hB), Sort.cell?_putRow_other _ _ blk off _ _ (Or.inl hne)]
    exact hcell)

def dropL (l : Int) (zs : List Int) : List Int := zs.filter fun x => !decide (x = l)
theorem delete_row (B g cap : Nat) (cur : Array Value) (zs : List Int) (l : Int) (p : Nat) (w : World) (hB : B ≤ g) (hb : w.heap[g]? = some (.cells cur 3 (0, 0))) (h1 : zs.length ≤ cap) (h2 : cap ≤ maxLen) (h3 : cur.size = cap * 1) (ht : cur.toList.take zs.length = ints .i64 zs) (hp : p < w.heap.size) (hne : p ≠ g) (hc : w.cell? ⟨p, 0, none⟩ = some (.int .i64 l)) :
    Calls Try.prog 144 #[.slice (some ⟨g, 0, none⟩) zs.length cap, .func (.func 145) #[] #[.pointer (some ⟨p, 0, none⟩)]] w fun e w' =>
      ∃ v, e = .returned v ∧ w'.ownsRow B 3 1 v (ints .i64 (dropL l zs)).length (ints .i64 (dropL l zs)) ∧ w.grownBy w' (some g) := by
  have hc0 := AnyE.slices_DeleteFunc Try.laysDF (Value.int .i64) (fun _ => rfl) (fun x => decide (x = l)) 145 #[.pointer (some ⟨p, 0, none⟩)] enters124 0 Try.zeroValue3 g 0 cap zs.toArray w
    (pred124 l p w hp hc) (over124 l p g 0 _ w hp hne hc) (holds_of_blockI hb ht) (by simp; unfold maxLen at h2; omega) (by simpa using h1)
  have hc1 : Calls Try.prog 144 #[.slice (some ⟨g, 0, none⟩) zs.length cap, .func (.func 145) #[] #[.pointer (some ⟨p, 0, none⟩)]] w _ := hc0
  refine hc1.mono ?_
  rintro e w' ⟨rfl, q, rfl⟩
  have hle : (dropL l zs).length ≤ zs.length := List.length_filter_le _ _
  have hown := ownsRow_sortedI (w := w) (n := q) (os := #[]) (ss := zs) (ts := dropL l zs ++ List.replicate (zs.length - (dropL l zs).length) 0) (by simp; omega) hB hb h1 h2 h3
  have hgr := grownBy_sortedI (w := w) (g := g) (n := q) (os := #[]) (dropL l zs ++ List.replicate (zs.length - (dropL l zs).length) 0).toArray
  rw [Sort.grow_empty] at hown hgr
  refine ⟨_, rfl, ?_, hgr⟩
  rw [ints_len]
  refine ⟨by simp [ints], ?_⟩
  rcases hown.2 with ⟨h, _⟩ | ⟨g', cap', cur', hv, hbg, hh, hnc, hcm, hcs, htk⟩
  · cases h
  · injection hv with hv1 hv2 hv3
    injection hv1 with hv1
    injection hv1 with hv1
    subst hv1; subst hv3
    refine .inr ⟨g, cap, cur', rfl, hbg, hh, by omega, hcm, hcs, ?_⟩
    have h5 : (cur'.toList.take (zs.length * 1)).take ((dropL l zs).length * 1) = ints .i64 (dropL l zs) := by
      rw [htk]
      simp [ints]
    rwa [List.take_take, Nat.min_eq_left (by omega)] at h5

def withoutL (xs : List Int) (l : Int) : List Int := dropL l (tidyL xs)
def RowPost (w : World) (zs : List Int) (e : Ending) (w' : World) : Prop := ∃ v, e = .returned v ∧ w'.ownsRow w.heap.size 3 1 v (ints .i64 zs).length (ints .i64 zs) ∧ Below w.heap.size w w'
set_option maxHeartbeats 1000000 in
theorem without_any (A : Option Addr) (c : Nat) (xs : List Int) (l : Int) (w : World) (hC : IC w A xs) (hlen : xs.length * 8 ≤ 281474976710656) :
    Calls Try.prog 121 #[.slice A xs.length c, .int .i64 l] w (RowPost w (withoutL xs l)) := by
  have hmf : ∀ (fn : Fn) (first cap : Array Value) (w : World), (Instr.makeFunc fn first cap).run Try.prog w = .ok (.func fn first cap) w := fun _ _ _ _ => rfl
  have hB : Below w.heap.size w (w.alloc (.cells #[.int .i64 l] 3)) := (Below.refl _ _).alloc (Nat.le_refl _) _
  have HT := Lib.hid (tidy_some A c xs _ (hC.below hB) hlen)
  have HB := Lib.hid hB
  have hcl : (w.alloc (.cells #[.int .i64 l] 3)).cell? ⟨w.heap.size, 0, none⟩ = some (.int .i64 l) := by simp
  have hsz : (w.alloc (.cells #[.int .i64 l] 3)).heap.size = w.heap.size + 1 := by simp
  have HC1 := Lib.hid (And.intro hcl hsz)
  clear hC hB hcl hsz
  unfold RowPost withoutL
  unfold TidyPostS at HT
  generalize xs.length = n at *
  generalize tidyL xs = zs at *
  go_enter Try.func121, Try.ntmps121
  go_wp2_with (first
    | (go_at_call 54; refine HT.out.mono ?_; rintro e w1 ⟨v1, rfl, ho1, hb1, hn1⟩; obtain ⟨g, cap, cur, hv, hbg, hh, hnc, hcm, hcs, htk⟩ := ho1.2.resolve_left (fun h => hn1 h.1); have hc1 := (hb1.cell (p := ⟨w.heap.size, 0, none⟩) (by rw [HC1.out.2]; exact Nat.lt_succ_self _)).trans HC1.out.1; rw [HC1.out.2] at hbg; rw [ints_len] at hnc htk hv; rw [Nat.mul_one] at htk; subst hv; have HD := Lib.hid (delete_row w.heap.size g cap cur zs l w.heap.size w1 (by omega) hh hnc hcm hcs htk (World.block_lt_of_cell? w1 _ hc1) (by omega) hc1); have HB1 := Lib.hid (HB.out.trans (hb1.mono HB.out.size)); have HG := Lib.hid (show w.heap.size ≤ g by omega); clear ho1 hb1 hn1 hbg hh hnc hcm hcs htk hc1)
    | (go_at_call 144; refine HD.out.mono ?_; rintro e w2 ⟨v2, rfl, ho2, hg2⟩; have HO2 := Lib.hid ho2; have HB2 := Lib.hid (HB1.out.grown hg2 HB1.out.size (fun j e => by cases e; exact HG.out)); clear ho2 hg2))
  go_ret
  exact ⟨_, rfl, HO2.out, HB2.out⟩

end Go.Proofs.Ytfljggodnnpeiaa.Spr
