/- Part of the proof of ForwardLasts: what the law uses of the text OpenO. -/
import Derived.Test.YtcaoobdbgdldaaaGreatDoorZPOpen
import Derived.Test.YtcaoobdbgdldaaaGreatDoorZPClO
import Derived.Test.YtcaoobdbgdldaaaGreatDoorZPJPorts
namespace Go.Proofs.YtcaoobdbgdldaaaGreatDoor.Opn
open Go.ChangeShapes Go.WideShapes Go.Deep Go.RowKit Go.Proofs.YtcaoobdbgdldaaaGreatDoorW.PrintWords Go.Proofs.YtcaoobdbgdldaaaGreatDoor.Cl
set_option linter.unusedVariables false
section
variable {H : Type} {enc : TypeId × Value → H} {W : World} {held : Bool}

set_option maxRecDepth 100000 in
theorem open_ops {b0 : Nat} {v : Value} {d : DataW H} {p : List MemPlace} (hv : Value.okWide Tryz.prog W .any b0 45 v) (h : DataW.Trod enc Tryz.prog W 0 (fun _ => true) held 45 v d p) (hs : Small d 45) :
    ∃ A c l, v = .slice A l.length c ∧ OC W A l ∧ l.length < Rows.uptoBulk d ∧ ∀ s ∈ l, s.2.length < Rows.uptoBulk d := by
  obtain ⟨a, n, c, rfl⟩ := okWide_slice Tryz.underlying45 hv
  obtain ⟨fuel, hf⟩ := h
  rcases open_slice Tryz.underlying45 hf with ⟨hcs, hy⟩ | ⟨x, len, cap, m, nf, D, Pl, hcs, _, hl, hm, hmm, hy, hrow⟩
  · exact ⟨none, 0, [], by simpa [Value.cells] using hcs, fun k hk => absurd hk (by simp), by have := bulk_one d; simp; omega, by simp⟩
  · have hd : d = .slice ((List.range len).map D) ((List.range (m - len)).map fun j => D (len + j)) := congrArg Prod.fst hy
    have ce : Tryz.prog.cellsOf 58 = 3 := by kernel_rfl
    obtain ⟨S, hS⟩ := choose_lt (n := len) (p := fun i (s : Int × List Int) => ∃ on A1 c1, W.cell? (x.add (i * 3)) = some (.int .i64 on) ∧ W.cell? (x.add (i * 3 + 1)) = some (.int .i64 s.1) ∧ W.cell? (x.add (i * 3 + 2)) = some (.slice A1 s.2.length c1) ∧ Lit.IC W A1 s.2 ∧ s.2.length < Rows.uptoBulk (D i)) (fun i hi => by
      obtain ⟨cs', h1, h2⟩ := hrow i (by rw [hmm]; split <;> omega)
      rw [ce] at h1
      obtain ⟨_, hlen, hcell⟩ := World.cells?_some h1
      obtain ⟨xs, k, hk, hxy, _, hxl, hf3⟩ := DataW.trod_struct Tryz.underlying58 h2
      have hsm : Small (D i) 58 := by
        rw [hd] at hs
        exact small_elem hs Tryz.underlying45 (List.mem_map.2 ⟨i, List.mem_range.2 hi, rfl⟩)
      match xs, hxl, cs', hlen with
      | [y0, y1, y2], _, [v0, v1, v2], _ =>
        have g0 := hf3 0 _ rfl
        have g1 := hf3 1 _ rfl
        have g2 := hf3 2 _ rfl
        have n1 : Tryz.prog.cellsOf 3 = 1 := by kernel_rfl
        have n2 : Tryz.prog.cellsOf 40 = 1 := by kernel_rfl
        simp [n1, n2] at g0 g1 g2
        have e0 := hcell 0 (by omega)
        have e1 := hcell 1 (by omega)
        have e2 := hcell 2 (by omega)
        rw [Deep.add_add] at e0 e1 e2
        obtain ⟨z0, hz0, _⟩ := DataW.trod_int Tryz.underlying3 g0
        obtain ⟨z1, hz1, _⟩ := DataW.trod_int Tryz.underlying3 g1
        have hp : D i = .agg [y0.1, y1.1, y2.1] := by simpa using congrArg Prod.fst hxy
        rw [hp] at hsm ⊢
        obtain ⟨A1, c1, l1, f1, hI, hbk⟩ := cell_ints g2 (small_part hsm Tryz.underlying58 (j := 2) rfl rfl)
        simp at e0 e1 e2 hz0 hz1 f1
        refine ⟨(z1, l1), z0, A1, c1, by rw [← hz0]; exact e0, by rw [← hz1]; exact e1, by rw [← f1]; exact e2, ic_of_C hI.read, ?_⟩
        have h1 : Rows.uptoBulk y2.1 + 1 ≤ Rows.uptoBulk (DataW.agg [y0.1, y1.1, y2.1]) := bulk_agg (by simp)
        show l1.length < _
        omega)
    have hn : ((List.range len).map S).length = len := by simp
    obtain ⟨hb1, hb2⟩ := bulk_slice (H := H) ((List.range len).map D) ((List.range (m - len)).map fun j => D (len + j))
    rw [← hd] at hb1 hb2
    refine ⟨some x, cap, (List.range len).map S, by rw [hn]; simpa [Value.cells] using hcs, ?_, by rw [hn]; rw [List.length_map, List.length_range] at hb1; omega, fun s hs2 => ?_⟩
    · intro k hk
      rw [hn] at hk
      obtain ⟨on, A1, c1, e0, e1, e2, h3, _⟩ := hS k hk
      have hg : ((List.range len).map S).getD k (0, []) = S k := by
        rw [List.getD_eq_getElem?_getD, List.getElem?_map, List.getElem?_range hk]; rfl
      rw [hg]
      exact ⟨x, on, A1, c1, rfl, e0, by rw [← add_field _ _ 1 (by omega)]; exact e1, by rw [← add_field _ _ 2 (by omega)]; exact e2, h3⟩
    · obtain ⟨i, hi, rfl⟩ := List.mem_map.1 hs2
      have hi2 := List.mem_range.1 hi
      obtain ⟨on, A1, c1, _, _, _, _, hbk⟩ := hS i hi2
      have h1 := hb2 _ (List.mem_map.2 ⟨i, hi, rfl⟩)
      omega
end
end Go.Proofs.YtcaoobdbgdldaaaGreatDoor.Opn
