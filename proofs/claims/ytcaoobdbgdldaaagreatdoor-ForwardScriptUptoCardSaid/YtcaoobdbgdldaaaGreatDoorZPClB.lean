/- Part of the proof of ForwardScript: what the law uses of the text ClB. -/
import Derived.Test.YtcaoobdbgdldaaaGreatDoorZPClA
import Derived.Test.YtcaoobdbgdldaaaGreatDoorZPJFwA
import Derived.Shelf.SlSortCmp.NoneTotal
import Derived.Lib.SliceRun
namespace Go.Proofs.YtcaoobdbgdldaaaGreatDoor.Cl
open Go.RowKit Go.Shelf Go.Maps Go.Proofs.YtcaoobdbgdldaaaGreatDoor.Lit Go.Proofs.YtcaoobdbgdldaaaGreatDoor.Spr Go.Proofs.YtcaoobdbgdldaaaGreatDoor.Fwd Go.Sort
set_option linter.unusedVariables false
set_option linter.unusedSimpArgs false

section
variable {α : Type} [Inhabited α]
theorem holds_block (enc : α → Value) {w : World} {g : Nat} {cur : Array Value} {e : TypeId} {ss : List α} (hb : w.heap[g]? = some (.cells cur e (0, 0))) (ht : cur.toList.take ss.length = ss.map enc) : Holds enc w g 0 ss.toArray := by
  intro j hj
  have hj' : j < ss.length := by simpa using hj
  refine ⟨?_, by simp [World.frozen?, hb]⟩
  have h1 : (cur.toList.take ss.length)[j]? = (ss.map enc)[j]? := by rw [ht]
  rw [List.getElem?_take_of_lt hj'] at h1
  simp only [World.cell?, hb, Nat.zero_add]
  simp only [Option.isSome_none, Bool.false_eq_true, if_false]
  rw [← Array.getElem?_toList, h1]
  simp [hj']
theorem heap_sortedE (enc : α → Value) {w : World} {g n : Nat} {os : Array Obj} {cur : Array Value} {e : TypeId} {fr : Nat × Nat} (d : Array α) (hb : w.heap[g]? = some (.cells cur e fr)) :
    (sortWorld enc w g 0 n d os).heap[g]? = some (.cells (putCells enc 0 d cur) e fr) := by
  have hg : g < w.heap.size := (Array.getElem?_eq_some_iff.1 hb).1
  unfold sortWorld
  rw [heap_grow_old _ _ (by simpa using hg)]
  simp [putRow, mapBlock, Sort.ahead, Array.getElem?_modify, hb, onCells]
theorem grown_sortedE (enc : α → Value) {w : World} {g n : Nat} {os : Array Obj} (d : Array α) : w.grownBy (sortWorld enc w g 0 n d os) (some g) := by
  unfold sortWorld
  refine ⟨rfl, rfl, rfl, by simp, fun k hk hne => ?_⟩
  rw [heap_grow_old _ _ (by simpa using hk)]
  have : g ≠ k := fun e => hne (by rw [e])
  simp [putRow, mapBlock, Sort.ahead, Array.getElem?_modify, this]
theorem take_putE (enc : α → Value) (cur : Array Value) (ts : List α) (h : ts.length ≤ cur.size) : (putCells enc 0 ts.toArray cur).toList.take ts.length = ts.map enc := by
  apply List.ext_getElem?
  intro j
  by_cases hj : j < ts.length
  · rw [List.getElem?_take_of_lt hj, Array.getElem?_toList]
    simp [putCells, hj, show j < cur.size by omega]
  · rw [List.getElem?_take_eq_none (by omega), List.getElem?_eq_none (by simp; omega)]
end

def Rw (w : World) (B : Nat) : Type := { p : Value × List Int // RowR w B p.1 p.2 ∧ p.2.length ≤ 2097152 }
def Rw.enc {w : World} {B : Nat} (x : Rw w B) : Value := x.1.1
def Rw.xs {w : World} {B : Nat} (x : Rw w B) : List Int := x.1.2
instance (w : World) (B : Nat) : Inhabited (Rw w B) := ⟨⟨(.slice none 0 0, []), World.ownsRow_nil _ _ _ _, by simp⟩⟩
theorem Rw.one (w : World) (B : Nat) : OneCell (Rw.enc (w := w) (B := B)) := fun x => by
  obtain ⟨A, c, e, _⟩ := x.2.1.ic
  unfold Rw.enc
  rw [e]; rfl
theorem entersO : ∀ args w, (callFunc 73 args).run Tryz.prog w = .ok (.enter 73 args) w := enters_of Tryz.func73 (by kernel_rfl) rfl
theorem getD_nth {α : Type} (xs : List α) (d : α) (i : Nat) (h : i < xs.length) : xs.getD i d = xs[i] := by
  rw [List.getD_eq_getElem?_getD, List.getElem?_eq_getElem h]; rfl

theorem sort_rows (B g cap : Nat) (all : List (List Int)) (w : World) (h : AllR w B (.slice (some ⟨g, 0, none⟩) all.length cap) all) (hl : all.length ≤ 4194304) (hx : ∀ t ∈ all, t.length ≤ 2097152) :
    Calls Tryz.prog 72 #[.slice (some ⟨g, 0, none⟩) all.length cap, .func (.func 73) #[] #[]] w fun e w' =>
      e = .returned (.tuple #[]) ∧ w.grownBy w' (some g) ∧ ∃ ds : List (List Int), ds.Perm all ∧ (∀ i j, i < j → j < ds.length → cmpL ds[i]! ds[j]! ≤ 0) ∧ AllR w' B (.slice (some ⟨g, 0, none⟩) ds.length cap) ds := by
  obtain ⟨vs, h1, h2, h3⟩ := h
  obtain ⟨hB, cells, hh, hc1, hc2, hc3, hc4⟩ : B ≤ g ∧ ∃ cells, w.heap[g]? = some (.cells cells 40 (0, 0)) ∧ all.length ≤ cap ∧ cap ≤ maxLen ∧ cells.size = cap * 1 ∧ cells.toList.take (all.length * 1) = vs := by
    rcases h2.2 with ⟨h0, _⟩ | ⟨g', cap', cells, e1, e2, e3, e4, e5, e6, e7⟩
    · cases h0
    · injection e1 with e1 _ e8
      injection e1 with e1
      injection e1 with e1
      subst e1; subst e8
      exact ⟨e2, cells, e3, e4, e5, e6, e7⟩
  have hki : ∀ (m : Nat) (os : Array Obj) (dk : Array (Rw w B)), KeepI w (sortWorld Rw.enc w g 0 m dk os) := fun m os dk => .grown (grown_sortedE Rw.enc dk) fun k e c e2 => by
    injection e with e
    subst e
    rw [hh] at e2
    injection e2 with e2
    injection e2 with _ e2
    exact absurd e2 (by decide)
  obtain ⟨ts, ht1, ht2, ht3⟩ : ∃ ts : List (Rw w B), ts.length = all.length ∧ ts.map Rw.enc = vs ∧ ts.map Rw.xs = all := by
    obtain ⟨f, hf⟩ : ∃ f : Fin all.length → Rw w B, ∀ i, (f i).enc = vs.getD i (.slice none 0 0) ∧ (f i).xs = all.getD i [] := ⟨fun i => ⟨(vs.getD i (.slice none 0 0), all.getD i []), h3 i i.2, by
      dsimp only
      rw [getD_nth _ _ _ i.2]
      exact hx _ (List.getElem_mem _)⟩, fun i => ⟨rfl, rfl⟩⟩
    refine ⟨List.ofFn f, List.length_ofFn, ?_, ?_⟩
    · apply List.ext_getElem
      · rw [List.length_map, List.length_ofFn, h1]
      · intro j a b
        rw [List.getElem_map, List.getElem_ofFn, (hf _).1, getD_nth _ _ _ b]
    · apply List.ext_getElem
      · rw [List.length_map, List.length_ofFn]
      · intro j a b
        rw [List.getElem_map, List.getElem_ofFn, (hf _).2, getD_nth _ _ _ b]
  have hcmp : Go.Proofs.CmpReads Tryz.prog 73 #[] (Rw.enc (w := w) (B := B)) (fun a b => cmpL a.xs b.xs) g 0 ts.toArray.size w := by
    intro m os dk hs x y
    obtain ⟨Aa, ca, ea, _, ha⟩ := (x.2.1.keep (hki m os dk)).ic
    obtain ⟨Ab, cb, eb, _, hb⟩ := (y.2.1.keep (hki m os dk)).ic
    have h := order_any Aa ca x.1.2 Ab cb y.1.2 _ ha hb (by have := x.2.2; omega) (by have := y.2.2; omega)
    have e : (#[Rw.enc x, Rw.enc y] ++ #[] : Array Value) = #[.slice Aa x.1.2.length ca, .slice Ab y.1.2.length cb] := by
      unfold Rw.enc
      rw [ea, eb]; rfl
    rw [e]
    exact h.mono fun e w' ⟨he, hw⟩ => ⟨he, 0, hw.symm⟩
  have hc := Any.slices_SortFunc Tryz.laysSR (Rw.enc (w := w) (B := B)) (Rw.one w B) (fun a b => cmpL a.xs b.xs) (swo_cmp Rw.xs) 73 #[] g 0 cap ts.toArray w entersO hcmp.lays (holds_block _ hh (by rw [ht2, ht1]; simpa using hc4)) (Array.getElem?_eq_some_iff.1 hh).1 (by simp; omega)
  rw [show ts.toArray.size = all.length by simpa using ht1] at hc
  refine hc.mono ?_
  rintro e w' ⟨rfl, d', n, os, hp, hs, rfl⟩
  obtain ⟨hsz, _, hperm⟩ := hp
  have hsz' : d'.size = all.length := by rw [hsz]; simpa using ht1
  have e1 : d'.extract 0 all.length = d' := by rw [← hsz']; simp
  have e2 : ts.toArray.extract 0 all.length = ts.toArray := by rw [← ht1]; simp
  rw [e1, e2] at hperm
  have hlen : (d'.toList.map Rw.xs).length = all.length := by simpa using hsz'
  refine ⟨rfl, grown_sortedE _ _, d'.toList.map Rw.xs, ?_, fun i j hij hj => ?_, d'.toList.map Rw.enc, by simp, ⟨by simp, .inr ⟨g, cap, _, rfl, hB, heap_sortedE Rw.enc d' hh, by rw [hlen]; exact hc1, hc2, by simp [putCells, hc3], ?_⟩⟩, fun i hi => ?_⟩
  · have := (hperm.map Rw.xs)
    rw [List.toList_toArray, ht3] at this
    exact this
  · have hj' : j < d'.size := by rw [hlen] at hj; omega
    have := hs i j (Nat.zero_le _) hij (by omega)
    simp only [Go.Proofs.ltOf, decide_eq_false_iff_not] at this
    rw [getElem!_pos (d'.toList.map Rw.xs) i (by rw [hlen]; omega), getElem!_pos (d'.toList.map Rw.xs) j hj, List.getElem_map, List.getElem_map, Array.getElem_toList, Array.getElem_toList]
    rw [getElem!_pos d' i (by omega), getElem!_pos d' j (by omega)] at this
    have ha := cmpL_anti d'[j].xs d'[i].xs
    have hb := cmpL_anti d'[i].xs d'[j].xs
    omega
  · have := take_putE Rw.enc cells d'.toList (by simp; omega)
    rw [hlen, Nat.mul_one, ← hsz']
    simpa using this
  · have hi' : i < d'.size := by rw [hlen] at hi; omega
    rw [getD_nth _ _ _ (by simpa using hi'), getD_nth _ _ _ hi, List.getElem_map, List.getElem_map]
    exact (Subtype.property (d'.toList[i]'(by simpa using hi'))).1.keep (hki n os d')

theorem eqNil (t e : TypeId) (ht : Tryz.prog.underlying t = some (.slice e)) (w : World) (a : Option Addr) (n c n' c' : Nat) : (binOp .eql t (.slice a n c) (.slice none n' c')).run Tryz.prog w = .ok (.bool a.isNone) w := Lib.run_eql_slice_nil w _ _ a n c n' c' ht
set_option maxHeartbeats 2000000 in
theorem clone_rows (B : Nat) (v : Value) (all : List (List Int)) (w : World) (h : AllR w B v all) (hB : B ≤ w.heap.size) (hl : all.length ≤ 4194304) :
    Calls Tryz.prog 71 #[v] w fun e w' => Below w.heap.size w w' ∧ ∃ v', e = .returned v' ∧ AllR w' B v' all ∧ ((v' = .slice none 0 0 ∧ all = []) ∨ ∃ g cap, v' = .slice (some ⟨g, 0, none⟩) all.length cap ∧ w.heap.size ≤ g) := by
  have hAll := Lib.hid h
  obtain ⟨vs, h1, h2, h3⟩ := h
  obtain ⟨i0, hi, hz0, hz1, hz2⟩ := info_parts infoRow
  have q22 := eqNil 22 40 Tryz.underlying22
  rcases h2.2 with ⟨h0, h4⟩ | ⟨g, cap, cells, e1, e2, e3, e4, e5, e6, e7⟩
  · subst h0
    have hnil : all = [] := List.length_eq_zero_iff.1 h4
    subst hnil
    clear h1 h2 h3 h4
    go_enter Tryz.func71, Tryz.ntmps71
    go_wp2
    go_ret
    exact ⟨Below.refl _ _, _, rfl, AllR.nil _ _, .inl (by simp)⟩
  · subst e1
    have hcl := h2.cells (g := g) rfl
    have A : Aside (∀ j u, vs[j]? = some u → w.cell? ⟨g, 0 + j, none⟩ = some u) := fun j u e => by
      have := hcl j u e
      rw [Addr.add_lit] at this; exact this
    have h1c : ∀ u ∈ vs, u.oneCell' = true := fun u hu => by
      obtain ⟨j, hj, rfl⟩ := List.getElem_of_mem hu
      obtain ⟨A1, c1, e, _⟩ := (h3 j (by omega)).ic
      rw [getD_nth _ _ _ hj] at e
      rw [e]; rfl
    clear e7 hcl
    generalize hn : all.length = n at *
    go_enter Tryz.func71, Tryz.ntmps71
    go_wp2_with (at_builtin; refine wpList_append_own _ rfl _ _ 22 rfl w.heap.size 40 i0 (.slice none 0 0) 1 24 Tryz.underlying22 hi hz0 hz1 hz2 rfl (by decide) _ _ _ rfl (World.ownsRow_made w #[] 0 (Nat.le_refl _) (Nat.zero_le _) (by simp)) ⟨g, 0, none⟩ n cap vs rfl ?qc1 ?qc2 ?qc3 ?qc4 ?qc5 ?qc6 ?_)
    case qc1 => omega
    case qc2 =>
      intro j u hj
      rw [Addr.add_lit]
      exact Lib.cell?_alloc_some _ (A.out j u hj)
    case qc3 => exact h1c
    case qc4 => unfold maxLen; omega
    case qc5 => omega
    case qc6 => simp
    intro v' w1 hown hgrow hnil
    go_wp2
    go_ret
    have hbel : Below w.heap.size w w1 := ((Below.refl _ w).alloc (Nat.le_refl _) _).grown hgrow (by simp) (by intro k hk; simp [Value.ownBlock] at hk; omega)
    have hown2 : w1.ownsRow w.heap.size 40 1 v' n vs := by simpa using hown
    refine ⟨hbel, v', rfl, ⟨vs, by omega, ?_, fun i hi => (h3 i (by omega)).keep (.of_below hbel)⟩, .inr ?_⟩
    · rw [hn]
      exact Spr.own_lower hown2 hB
    · rcases hown2.2 with ⟨h5, _⟩ | ⟨g', cap', cells', f1, f2, f3, f4⟩
      · exact absurd h5 (by simpa using hnil)
      · exact ⟨g', cap', f1, f2⟩

def ClonePost (w : World) (xs : List Int) (e : Ending) (w' : World) : Prop := Below w.heap.size w w' ∧ ∃ v', e = .returned v' ∧ w'.ownsRow w.heap.size 3 1 v' xs.length (ints .i64 xs)
theorem infoI : (Tryz.prog.info? 3).map (fun i => (i.zero, i.size, i.bytes)) = some (some (.int .i64 0), 1, 8) := by kernel_rfl
set_option maxHeartbeats 2000000 in
theorem clone_ints (B : Nat) (v : Value) (xs : List Int) (w : World) (h : RowR w B v xs) (hl : xs.length ≤ 2097152) :
    Calls Tryz.prog 74 #[v] w (ClonePost w xs) := by
  obtain ⟨i0, hi, hz0, hz1, hz2⟩ := info_parts infoI
  have q22 := eqNil 40 3 Tryz.underlying40
  rcases h.form with ⟨rfl, rfl⟩ | ⟨g, cap, cells, rfl, _, hh, hc, ht⟩
  · clear h
    go_enter Tryz.func74, Tryz.ntmps74
    go_wp2
    go_ret
    exact ⟨Below.refl _ _, _, rfl, World.ownsRow_nil _ _ _ _⟩
  · have hcl := h.cells (g := g) rfl
    have A : Aside (∀ j u, (ints .i64 xs)[j]? = some u → w.cell? ⟨g, 0 + j, none⟩ = some u) := fun j u e => by
      have := hcl j u e
      rw [Addr.add_lit] at this; exact this
    have h1c : ∀ u ∈ ints .i64 xs, u.oneCell' = true := fun u hu => by
      obtain ⟨x, _, rfl⟩ := List.mem_map.1 hu
      rfl
    have hlen : (ints .i64 xs).length = xs.length := by simp [ints]
    clear hcl ht h
    unfold ClonePost
    generalize ints .i64 xs = ys at *
    generalize hn : xs.length = n at *
    go_enter Tryz.func74, Tryz.ntmps74
    go_wp2_with (at_builtin; refine wpList_append_own _ rfl _ _ 40 rfl w.heap.size 3 i0 (.int .i64 0) 1 8 Tryz.underlying40 hi hz0 hz1 hz2 rfl (by decide) _ _ _ rfl (World.ownsRow_made w #[] 0 (Nat.le_refl _) (Nat.zero_le _) (by simp)) ⟨g, 0, none⟩ n cap ys rfl ?qc1 ?qc2 ?qc3 ?qc4 ?qc5 ?qc6 ?_)
    case qc1 => omega
    case qc2 =>
      intro j u hj
      rw [Addr.add_lit]
      exact Lib.cell?_alloc_some _ (A.out j u hj)
    case qc3 => exact h1c
    case qc4 => unfold maxLen; omega
    case qc5 => omega
    case qc6 => simp
    intro v' w1 hown hgrow hnil
    go_wp2
    go_ret
    exact ⟨((Below.refl _ w).alloc (Nat.le_refl _) _).grown hgrow (by simp) (by intro k hk; simp [Value.ownBlock] at hk; omega), v', rfl, by simpa using hown⟩

end Go.Proofs.YtcaoobdbgdldaaaGreatDoor.Cl
