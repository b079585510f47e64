/- Part of the proof of TrimRight: what the law uses of the text Open. -/
import Derived.Test.YtfljggodnnpeiaaZRJWithout
import Derived.Deep.Matrix
import Derived.Deep.Grids
import Derived.Lib.SmallJoins
import Derived.SizedLaws
import Derived.WalkKit
import Derived.KernelRfl
import Derived.Test.YtfljggodnnpeiaaProg
import Derived.Test.YtfljggodnnpeiaaRows
namespace Go.Proofs.Ytfljggodnnpeiaa.Opn
open Go.ChangeShapes Go.WideShapes Go.Deep Go.RowKit Go.Proofs.YtfljggodnnpeiaaW.PrintWords

section
variable {H : Type} {enc : TypeId × Value → H} {W : World} {held : Bool}

def Small (d : DataW H) (t : TypeId) : Prop := ∀ n ∈ d.weights Try.prog t, n ≤ 140737488351232
theorem small_of {ts : List TypeId} {ds : List (DataW H)} (hsz : (DataW.weightsEach Try.prog ts ds).all (· ≤ reachBytes) = true) {j : Nat} {t : TypeId} {d : DataW H} (ht : ts[j]? = some t) (hd : ds[j]? = some d) : Small d t := fun n hn => by
  have := List.all_eq_true.1 hsz _ (DataW.weights_mem_each ht hd n hn)
  exact of_decide_eq_true this
theorem in_all {e : TypeId} : ∀ {ds : List (DataW H)} {d : DataW H}, d ∈ ds → ∀ n ∈ d.weights Try.prog e, n ∈ DataW.weightsAll Try.prog e ds
  | d0 :: ds, d, hd, n, hn => by
    rw [DataW.weightsAll, List.mem_append]
    rcases List.mem_cons.1 hd with e | hd
    · rw [← e]; exact .inl hn
    · exact .inr (in_all hd n hn)
theorem small_part {t : TypeId} {fs : Array Field} {parts : List (DataW H)} (h : Small (.agg parts) t) (hu : Try.prog.underlying t = some (.struct fs)) {j : Nat} {t1 : TypeId} {d : DataW H} (ht : (fs.toList.map (·.type))[j]? = some t1) (hd : parts[j]? = some d) : Small d t1 := fun n hn => by
  refine h n ?_
  rw [DataW.weights, hu]
  exact DataW.weights_mem_each ht hd n hn
theorem small_elem {t e : TypeId} {elems spare : List (DataW H)} (h : Small (.slice elems spare) t) (hu : Try.prog.underlying t = some (.slice e)) {d : DataW H} (hd : d ∈ elems) : Small d e := fun n hn => by
  refine h n ?_
  rw [DataW.weights, hu]
  exact List.mem_cons_of_mem _ (List.mem_append_left _ (in_all hd n hn))
theorem small_len {t e : TypeId} {elems spare : List (DataW H)} (h : Small (.slice elems spare) t) (hu : Try.prog.underlying t = some (.slice e)) : elems.length * Try.prog.bytesOf e ≤ 140737488351232 := by
  have := h ((elems.length + spare.length) * Try.prog.bytesOf e) (by rw [DataW.weights, hu]; exact List.mem_cons_self)
  rw [Nat.add_mul] at this
  omega

theorem bulk_one (d : DataW H) : 1 ≤ Rows.uptoBulk d := by
  cases d with
  | lit l => cases l <;> simp [Rows.uptoBulk]
  | nil => simp [Rows.uptoBulk]
  | ptr d => simp [Rows.uptoBulk]
  | slice elems spare => simp [Rows.uptoBulk]
  | agg parts => simp [Rows.uptoBulk]
  | iface t d => simp [Rows.uptoBulk]
  | map entries => simp [Rows.uptoBulk]
  | held h => simp [Rows.uptoBulk]
theorem bulk_part {d : DataW H} {l : List (DataW H)} (h : d ∈ l) : Rows.uptoBulk d ≤ Rows.uptoBulkAll l := by
  induction l with
  | nil => cases h
  | cons x r ih =>
    simp only [Rows.uptoBulkAll]
    cases List.mem_cons.1 h with
    | inl e => subst e; omega
    | inr e => have := ih e; omega
theorem bulk_len (l : List (DataW H)) : l.length ≤ Rows.uptoBulkAll l := by
  induction l with
  | nil => simp [Rows.uptoBulkAll]
  | cons x r ih => have := bulk_one x; simp only [Rows.uptoBulkAll, List.length_cons]; omega
theorem bulk_slice (elems spare : List (DataW H)) : elems.length + 1 ≤ Rows.uptoBulk (.slice elems spare) ∧ ∀ d ∈ elems, Rows.uptoBulk d + 1 ≤ Rows.uptoBulk (.slice elems spare) := by
  have h1 := bulk_len elems
  refine ⟨by simp only [Rows.uptoBulk]; omega, fun d hd => ?_⟩
  have := bulk_part hd
  simp only [Rows.uptoBulk]; omega
theorem bulk_agg {parts : List (DataW H)} {d : DataW H} (h : d ∈ parts) : Rows.uptoBulk d + 1 ≤ Rows.uptoBulk (.agg parts) := by
  have := bulk_part h
  simp only [Rows.uptoBulk]; omega
theorem bulk_of {ds : List (DataW H)} (h : Rows.uptoSmall H ds = true) {j : Nat} {d : DataW H} (hd : ds[j]? = some d) : Rows.uptoBulk d ≤ 1048576 := by
  have h1 : Rows.uptoBulkAll ds ≤ 1048576 := of_decide_eq_true h
  have := bulk_part (List.mem_of_getElem? hd)
  omega

structure Ints (W : World) (A : Option Addr) (c : Nat) (l : List Int) : Prop where
  read : Kd.C (Kd.int .i64) W A l.length l
  cap : l.length ≤ c
  size : l.length * 8 ≤ 140737488351232
  wf : ∀ x ∈ l, (Lit.int .i64 x).wf = true
set_option linter.unusedVariables false in
theorem ints_of {A : Option Addr} {n c : Nat} {zs : List Int} (hl : n ≤ c) (hm : c ≤ maxLen) (hz : zs.length = c) (hc : 0 < n → ∃ a, A = some a ∧ ∀ i, i < c → W.cell? (a.add i) = some (.int .i64 (zs.getD i 0))) (hw : ∀ x ∈ zs, (Lit.int .i64 x).wf = true) (h8 : n * 8 ≤ 140737488351232) : (zs.take n).length = n ∧ Ints W A c (zs.take n) := by
  have hn : (zs.take n).length = n := by rw [List.length_take]; omega
  refine ⟨hn, ⟨?_, by rw [hn]; exact hl, by rw [hn]; exact h8, fun x hx => hw x (List.mem_of_mem_take hx)⟩⟩
  refine Kd.C_of_reads (enc := Value.int .i64) (d := (0 : Int)) (h1 := fun _ => rfl) ⟨rfl, ?_, fun h0 => ?_⟩
  · rw [hn]; unfold maxLen at hm; omega
  · rw [hn] at h0 ⊢
    obtain ⟨a, ha, hcell⟩ := hc h0
    refine ⟨a, ha, fun j hj => ?_⟩
    rw [hcell j (by omega), List.getD_eq_getElem?_getD, List.getD_eq_getElem?_getD, List.getElem?_take_of_lt hj]
theorem cell_ints {fuel : Nat} {cs : List Value} {y : DataW H × List MemPlace} (h : DataW.trod enc Try.prog W 0 (fun _ => true) held fuel 25 cs = some y) (hs : Small y.1 25) : ∃ A c l, cs = [.slice A l.length c] ∧ Ints W A c l ∧ l.length < Rows.uptoBulk y.1 := by
  rcases open_ints Try.underlying25 Try.underlying3 (by kernel_rfl) h with ⟨hcs, hy⟩ | ⟨x, len, cap, zs, hcs, _, hl, hm, hz, hy, hcell, hw⟩
  · exact ⟨none, 0, [], hcs, ⟨⟨rfl, by simp, fun h0 => absurd h0 (by simp)⟩, by simp, by simp, by simp⟩, by have := bulk_one y.1; simp; omega⟩
  · simp only [if_true] at hz
    rw [hy] at hs
    have h8 := small_len hs Try.underlying25
    have hb : Try.prog.bytesOf 3 = 8 := by kernel_rfl
    rw [hb] at h8
    have h82 : len * 8 ≤ 140737488351232 := by
      have : (lits (H := H) .i64 (zs.take len)).length = len := by simp [lits]; omega
      rw [this] at h8; exact h8
    obtain ⟨h1, h2⟩ := ints_of (A := some x) hl hm hz (fun _ => ⟨x, rfl, fun i hi => hcell i (by rw [hz]; exact hi)⟩) hw h82
    have hbk := (bulk_slice (H := H) (lits .i64 (zs.take len)) (lits .i64 (zs.drop len))).1
    have hll : (lits (H := H) .i64 (zs.take len)).length = len := by simp [lits]; omega
    exact ⟨some x, cap, zs.take len, by rw [h1]; exact hcs, h2, by rw [h1, hy]; rw [hll] at hbk; exact hbk⟩

structure Lists (W : World) (A : Option Addr) (c : Nat) (l : List (List Int)) : Prop where
  read : Kd.C (Kd.slice 3 (Kd.int .i64)) W A l.length l
  cap : l.length ≤ c
  size : l.length * 24 ≤ 140737488351232
  sizes : ∀ x ∈ l, x.length * 8 ≤ 140737488351232
  wf : ∀ x ∈ l, ∀ y ∈ x, (Lit.int .i64 y).wf = true
theorem cell_rows {fuel : Nat} {cs : List Value} {y : DataW H × List MemPlace} (h : DataW.trod enc Try.prog W 0 (fun _ => true) held fuel 22 cs = some y) (hs : Small y.1 22) : ∃ A c l, cs = [.slice A l.length c] ∧ Lists W A c l ∧ l.length < Rows.uptoBulk y.1 ∧ ∀ x ∈ l, x.length < Rows.uptoBulk y.1 := by
  rcases open_int_rows Try.underlying22 Try.underlying25 Try.underlying3 (by kernel_rfl) (by kernel_rfl) h with ⟨hcs, hy⟩ | ⟨a, len, cap, A, L, C, Z, hcs, _, hl, hm, hy, hrow⟩
  · exact ⟨none, 0, [], hcs, ⟨⟨rfl, by simp, fun h0 => absurd h0 (by simp)⟩, by simp, by simp, by simp, by simp⟩, by have := bulk_one y.1; simp; omega, by simp⟩
  · rw [hy] at hs
    have h24 := small_len hs Try.underlying22
    have hb : Try.prog.bytesOf 25 = 24 := by kernel_rfl
    have hb8 : Try.prog.bytesOf 3 = 8 := by kernel_rfl
    rw [hb, List.length_map, List.length_range] at h24
    have each : ∀ r, r < len → ((Z r).take (L r)).length = L r ∧ Ints W (A r) (C r) ((Z r).take (L r)) := by
      intro r hr
      obtain ⟨_, r1, r2, r3, r4, r5, r6⟩ := hrow r (by omega)
      refine ints_of r1 r2 r3 (fun h0 => ?_) r4 ?_
      · cases hA : A r with
        | none => have := r5 hA; omega
        | some a' => exact ⟨a', rfl, (r6 a' hA).2⟩
      · have hsm : Small (intRow (H := H) .i64 (A r) (L r) (Z r)) 25 := small_elem hs Try.underlying22 (List.mem_map.2 ⟨r, List.mem_range.2 hr, rfl⟩)
        cases hA : A r with
        | none => have := r5 hA; omega
        | some a' =>
          rw [hA] at hsm
          have h8 := small_len (H := H) (elems := lits .i64 ((Z r).take (L r))) (spare := lits .i64 ((Z r).drop (L r))) hsm Try.underlying25
          rw [hb8] at h8
          have : (lits (H := H) .i64 ((Z r).take (L r))).length = L r := by simp [lits]; omega
          rw [this] at h8; exact h8
    have hn : ((List.range len).map fun r => (Z r).take (L r)).length = len := by simp
    obtain ⟨hb1, hb2⟩ := bulk_slice (H := H) ((List.range len).map fun r => intRow .i64 (A r) (L r) (Z r)) ((List.range (cap - len)).map fun j => intRow .i64 (A (len + j)) (L (len + j)) (Z (len + j)))
    have hbulk : ∀ r, r < len → L r < Rows.uptoBulk (intRow (H := H) .i64 (A r) (L r) (Z r)) := fun r hr => by
      obtain ⟨_, r1, r2, r3, r4, r5, r6⟩ := hrow r (by omega)
      cases hA : A r with
      | none => have := r5 hA; have := bulk_one (intRow (H := H) .i64 none (L r) (Z r)); omega
      | some a' =>
        have h1 := (bulk_slice (H := H) (lits .i64 ((Z r).take (L r))) (lits .i64 ((Z r).drop (L r)))).1
        have : (lits (H := H) .i64 ((Z r).take (L r))).length = L r := by simp [lits]; omega
        rw [this] at h1; exact h1
    refine ⟨some a, cap, (List.range len).map fun r => (Z r).take (L r), by rw [hn]; exact hcs, ⟨?_, by rw [hn]; exact hl, by rw [hn]; exact h24, ?_, ?_⟩, by rw [hn, hy]; rw [List.length_map, List.length_range] at hb1; exact hb1, fun x hx => ?_⟩
    · refine ⟨rfl, by rw [hn]; unfold maxLen at hm; omega, fun _ => ⟨a, rfl, fun j p hp => ?_⟩⟩
      rw [List.getElem?_map] at hp
      obtain ⟨r, hr, rfl⟩ := Option.map_eq_some_iff.1 hp
      obtain ⟨hrl, rfl⟩ := List.getElem?_eq_some_iff.1 hr
      rw [List.getElem_range] at hr ⊢
      have hj : j < len := by simpa using hrl
      obtain ⟨e1, e2⟩ := each j hj
      refine ⟨[.slice (A j) ((Z j).take (L j)).length (C j)], rfl, ⟨A j, C j, rfl, e2.cap, e2.read⟩, fun i u hu => ?_⟩
      cases i with
      | zero =>
        have hu2 : Value.slice (A j) ((Z j).take (L j)).length (C j) = u := by simpa using hu
        rw [← hu2, e1]
        show W.cell? (a.add (j * 1 + 0)) = _
        rw [Nat.mul_one, Nat.add_zero]
        exact (hrow j (by omega)).1
      | succ i => simp at hu
    · intro x hx
      obtain ⟨r, hr, rfl⟩ := List.mem_map.1 hx
      exact (each r (List.mem_range.1 hr)).2.size
    · intro x hx
      obtain ⟨r, hr, rfl⟩ := List.mem_map.1 hx
      exact (each r (List.mem_range.1 hr)).2.wf
    · obtain ⟨r, hr, rfl⟩ := List.mem_map.1 hx
      have hr2 := List.mem_range.1 hr
      rw [(each r hr2).1, hy]
      have h1 := hbulk r hr2
      have h2 := hb2 _ (List.mem_map.2 ⟨r, hr, rfl⟩)
      exact Nat.lt_trans h1 h2

set_option maxRecDepth 100000 in
theorem formula_cells {fuel : Nat} {cs : List Value} {y : DataW H × List MemPlace} (h : DataW.trod enc Try.prog W 0 (fun _ => true) held fuel 24 cs = some y) (hs : Small y.1 24) : ∃ v A c l, cs = [.int .i64 v, .slice A l.length c] ∧ (Lit.int .i64 v).wf = true ∧ Lists W A c l ∧ l.length < Rows.uptoBulk y.1 ∧ ∀ x ∈ l, x.length < Rows.uptoBulk y.1 := by
  obtain ⟨y0, y1, n, hy, hl, h0, h1⟩ := trod_struct2 Try.underlying24 h
  have hC : Try.prog.cellsOf 24 = 2 := by kernel_rfl
  have hC3 : Try.prog.cellsOf 3 = 1 := by kernel_rfl
  have hC22 : Try.prog.cellsOf 22 = 1 := by kernel_rfl
  rw [hC] at hl
  match cs, hl with
  | [c0, c1], _ =>
    rw [hy] at hs
    obtain ⟨v, hv, _, hw⟩ := DataW.trod_int Try.underlying3 h0
    obtain ⟨A, c, l, hc, hr, hb1, hb2⟩ := cell_rows h1 (small_part hs Try.underlying24 (j := 1) rfl rfl)
    rw [hC3] at hv
    rw [hC22] at hc
    simp at hv hc
    have hbk : Rows.uptoBulk y1.1 + 1 ≤ Rows.uptoBulk y.1 := by rw [hy]; exact bulk_agg (by simp)
    exact ⟨v, A, c, l, by rw [hv, hc], hw, hr, by omega, fun x hx => by have := hb2 x hx; omega⟩
set_option maxRecDepth 100000 in
theorem open_formula {b0 : Nat} {v : Value} {d : DataW H} {p : List MemPlace} (hv : Value.okWide Try.prog W .any b0 24 v) (h : DataW.Trod enc Try.prog W 0 (fun _ => true) held 24 v d p) (hs : Small d 24) :
    ∃ n A c l, v = .agg #[.int .i64 n, .slice A l.length c] ∧ (Lit.int .i64 n).wf = true ∧ Lists W A c l ∧ l.length < Rows.uptoBulk d ∧ ∀ x ∈ l, x.length < Rows.uptoBulk d := by
  obtain ⟨cs, rfl, _⟩ := okWide_struct Try.underlying24 hv
  obtain ⟨fuel, hf⟩ := h
  obtain ⟨n, A, c, l, hc, hw, hr, hb⟩ := formula_cells hf hs
  refine ⟨n, A, c, l, ?_, hw, hr, hb⟩
  have : cs.toList = [.int .i64 n, .slice A l.length c] := hc
  rw [← Array.toList_inj.1 (show cs.toList = (#[.int .i64 n, .slice A l.length c] : Array Value).toList from this)]
end
end Go.Proofs.Ytfljggodnnpeiaa.Opn
