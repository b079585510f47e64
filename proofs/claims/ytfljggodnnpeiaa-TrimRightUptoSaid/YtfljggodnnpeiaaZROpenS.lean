/- Part of the proof of TrimRight: what the law uses of the text OpenS. -/
import Derived.Test.YtfljggodnnpeiaaZROpen
import Derived.Test.YtfljggodnnpeiaaZRJPorts
import Derived.Deep.SlicePairs
namespace Go.Proofs.Ytfljggodnnpeiaa.Opn
open Go.ChangeShapes Go.WideShapes Go.Deep Go.RowKit Go.Proofs.Ytfljggodnnpeiaa.P Go.Proofs.YtfljggodnnpeiaaW.PrintWords
set_option linter.unusedVariables false
section
variable {H : Type} {enc : TypeId × Value → H} {W : World} {held : Bool}

theorem choose_s {n : Nat} {p : Nat → S79 → Prop} (h : ∀ i, i < n → ∃ s, p i s) : ∃ V : Nat → S79, ∀ i, i < n → p i (V i) := by
  refine ⟨fun i => if hi : i < n then Classical.choose (h i hi) else z79, fun i hi => ?_⟩
  simp only [dif_pos hi]
  exact Classical.choose_spec (h i hi)

set_option maxRecDepth 100000 in
theorem open_steps {b0 : Nat} {v : Value} {d : DataW H} {p : List MemPlace} (hv : Value.okWide Try.prog W .any b0 69 v) (h : DataW.Trod enc Try.prog W 0 (fun _ => true) held 69 v d p) (hs : Small d 69) :
    ∃ A c l, v = .slice A l.length c ∧ Kd.C k79 W A l.length l ∧ l.length ≤ c ∧ l.length < Rows.uptoBulk d ∧ ∀ s ∈ l, s.f1.length < Rows.uptoBulk d := by
  obtain ⟨a, n, c, rfl⟩ := okWide_slice Try.underlying69 hv
  obtain ⟨fuel, hf⟩ := h
  rcases open_slice_pairs Try.underlying69 Try.underlying79 (by kernel_rfl) rfl rfl (by kernel_rfl) (by kernel_rfl) hf with ⟨hcs, hy⟩ | ⟨x, len, cap, m, nf, V0, V1, D0, D1, P0, P1, hcs, _, hl, hm, hmm, hy, hrow⟩
  · exact ⟨none, 0, [], by simpa [Value.cells] using hcs, ⟨rfl, by simp, fun h0 => absurd h0 (by simp)⟩, by simp, by have := bulk_one d; simp; omega, by simp⟩
  · have hd : d = .slice ((List.range len).map fun i => .agg [D0 i, D1 i]) ((List.range (m - len)).map fun j => .agg [D0 (len + j), D1 (len + j)]) := congrArg Prod.fst hy
    obtain ⟨S, hS⟩ := choose_s (n := len) (p := fun i s => ∃ A1 c1, V0 i = .bool s.f0 ∧ V1 i = .slice A1 s.f1.length c1 ∧ s.f1.length ≤ c1 ∧ (Kd.int .i64).C W A1 s.f1.length s.f1 ∧ s.f1.length < Rows.uptoBulk (D1 i)) (fun i hi => by
      obtain ⟨_, _, h1, h2⟩ := hrow i (by rw [hmm]; split <;> omega)
      obtain ⟨b, hb, _⟩ := DataW.trod_bool Try.underlying4 h1
      have hsm : Small (D1 i) 25 := by
        rw [hd] at hs
        have h3 := small_elem hs Try.underlying69 (d := .agg [D0 i, D1 i]) (List.mem_map.2 ⟨i, List.mem_range.2 hi, rfl⟩)
        exact small_part h3 Try.underlying79 (j := 1) rfl rfl
      obtain ⟨A1, c1, l1, e1, hI, hbk⟩ := cell_ints h2 hsm
      exact ⟨⟨b, l1⟩, A1, c1, by simpa using hb, by simpa using e1, hI.cap, hI.read, hbk⟩)
    have hn : ((List.range len).map S).length = len := by simp
    obtain ⟨hb1, hb2⟩ := bulk_slice (H := H) ((List.range len).map fun i => .agg [D0 i, D1 i]) ((List.range (m - len)).map fun j => .agg [D0 (len + j), D1 (len + j)])
    rw [← hd] at hb1 hb2
    refine ⟨some x, cap, (List.range len).map S, by rw [hn]; simpa [Value.cells] using hcs, ?_, by rw [hn]; exact hl, by rw [hn]; rw [List.length_map, List.length_range] at hb1; omega, fun s hs2 => ?_⟩
    · refine ⟨rfl, by rw [hn]; unfold maxLen at hm; omega, fun _ => ⟨x, rfl, fun j q hq => ?_⟩⟩
      rw [List.getElem?_map] at hq
      obtain ⟨r, hr, rfl⟩ := Option.map_eq_some_iff.1 hq
      obtain ⟨hrl, rfl⟩ := List.getElem?_eq_some_iff.1 hr
      rw [List.getElem_range] at hr ⊢
      have hj : j < len := by simpa using hrl
      obtain ⟨A1, c1, e0, e1, hc, hr2, _⟩ := hS j hj
      obtain ⟨h0, h1, _, _⟩ := hrow j (by rw [hmm]; split <;> omega)
      refine ⟨[.bool (S j).f0, .slice A1 (S j).f1.length c1], rfl, k79_mk W (S j) hc hr2, fun i u hu => ?_⟩
      match i, hu with
      | 0, hu =>
        have hu2 : Value.bool (S j).f0 = u := by simpa using hu
        rw [← hu2, ← e0]
        exact h0
      | 1, hu =>
        have hu2 : Value.slice A1 (S j).f1.length c1 = u := by simpa using hu
        rw [← hu2, ← e1]
        exact h1
      | i + 2, hu => simp at hu
    · obtain ⟨i, hi, rfl⟩ := List.mem_map.1 hs2
      have hi2 := List.mem_range.1 hi
      obtain ⟨A1, c1, _, _, _, _, hbk⟩ := hS i hi2
      have h1 := hb2 _ (List.mem_map.2 ⟨i, hi, rfl⟩)
      have h2 : Rows.uptoBulk (D1 i) + 1 ≤ Rows.uptoBulk (DataW.agg [D0 i, D1 i]) := bulk_agg (by simp)
      omega
end
end Go.Proofs.Ytfljggodnnpeiaa.Opn
