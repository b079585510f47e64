/- Part of the proof of ForwardLasts: what the law uses of the text CnC. -/
import Derived.Test.YtcaoobdbgdldaaaGreatDoorZPCnB
import Derived.Test.YtcaoobdbgdldaaaGreatDoorZPJPorts
import Derived.Test.YtcaoobdbgdldaaaGreatDoorZPJMeet
namespace Go.Proofs.YtcaoobdbgdldaaaGreatDoor.Cn
open Go.RowKit Go.Proofs.YtcaoobdbgdldaaaGreatDoor.Lit Go.Proofs.YtcaoobdbgdldaaaGreatDoor.Spr Go.Proofs.YtcaoobdbgdldaaaGreatDoorW.PrintWords
set_option linter.unusedVariables false
set_option linter.unusedSimpArgs false

theorem infoI : (Tryz.prog.info? 3).map (fun i => (i.zero, i.size, i.bytes)) = some (some (.int .i64 0), 1, 8) := by kernel_rfl
theorem infoL : (Tryz.prog.info? 40).map (fun i => (i.zero, i.size, i.bytes)) = some (some (.slice none 0 0), 1, 24) := by kernel_rfl
abbrev kL : Kd (List Int) := Kd.slice 3 (Kd.int .i64)
theorem kL_mk {W : World} {ok : Nat → Prop} {x : List Int} {A : Option Addr} {c : Nat} (hc : x.length ≤ c) (h : Kd.F (Kd.int .i64) W ok A x.length x) : Kd.FK kL W ok x [.slice A x.length c] := fun W' hW => ⟨A, c, rfl, hc, h W' hW⟩

set_option maxHeartbeats 4000000 in
set_option maxRecDepth 100000 in
theorem laid_any (A : Option Addr) (c0 : Nat) (cs : List (List Int)) (w : World) (hC : Kd.C kL w A cs.length cs) (hl : cs.length ≤ 5864062014800) (h8 : ∀ c ∈ cs, c.length ≤ 17592186044416) :
    Calls Tryz.prog 89 #[.slice none 0 0, .slice A cs.length c0] w fun e w' => ∃ v, e = .returned v ∧ Kd.N kL 40 w' w.heap.size (fun k => w.heap.size ≤ k) v cs ∧ Below w.heap.size w w' := by
  have HC := Lib.hid (fun k (hk : k < cs.length) => show ∃ ad A1 c1, A = some ad ∧ (∀ w2, Below w.heap.size w w2 → w2.cell? (ad.add k) = some (.slice A1 (cs.getD k []).length c1) ∧ (Kd.int .i64).C w2 A1 (cs.getD k []).length (cs.getD k [])) from by
    obtain ⟨ad, c, e, _, hK, hcell⟩ := Kd.C_get hC [] (k : Int) (by omega) (by omega)
    rw [Int.toNat_natCast] at hK hcell
    obtain ⟨A1, c1, rfl, l1, g1⟩ := hK
    refine ⟨ad, A1, c1, e, fun w2 hb => ⟨?_, Kd.C_below g1 hb⟩⟩
    have h1 : w.cell? (ad.add k) = some (.slice A1 (cs.getD k []).length c1) := by
      have := hcell 0 _ rfl
      rwa [show k * kL.sz + 0 = k from Nat.mul_one k] at this
    exact (hb.cell (World.block_lt_of_cell? w _ h1)).trans h1)
  have HSn := Lib.hid (fun k (hk : k < cs.length) => show cs.take (k + 1) = cs.take k ++ [cs.getD k []] by rw [List.take_add_one, List.getD_eq_getElem?_getD, List.getElem?_eq_getElem hk]; rfl)
  have HEnd := Lib.hid (show cs.take cs.length = cs from List.take_length)
  have HLt := Lib.hid (fun k => show (cs.take k).length ≤ k from by rw [List.length_take]; omega)
  have H8 := Lib.hid (fun k (hk : k < cs.length) => show (cs.getD k []).length ≤ 17592186044416 from h8 _ (by rw [List.getD_eq_getElem?_getD, List.getElem?_eq_getElem hk]; exact List.getElem_mem _))
  have HB0 := Lib.hid (Below.refl w.heap.size w)
  have HN0 := Lib.hid (show Kd.N kL 40 w w.heap.size (fun k => w.heap.size ≤ k) (.slice none 0 0) (cs.take 0) from Kd.N_nil _ _ _ _ _)
  clear hC h8
  generalize hn : cs.length = n at *
  clear hn
  go_enter Tryz.func89, Tryz.ntmps89
  go_wp2
  go_loopw [0, 9] (fun v i wr => ∃ k : Nat, k ≤ n ∧ i = .int .i64 k ∧ Kd.N kL 40 wr w.heap.size (fun k => w.heap.size ≤ k) v (cs.take k) ∧ Below w.heap.size w wr) (fun _ i _ => n - (intOf i).toNat)
  case atStart => exact ⟨0, Nat.zero_le _, rfl, HN0.out, HB0.out⟩
  case round =>
    obtain ⟨k, hk, rfl, hN, hB⟩ := hrel
    have HN := Lib.hid hN
    have HB := Lib.hid hB
    clear hN hB
    by_cases hlt : k < n
    · obtain ⟨ad, A1, c1, hA, hx⟩ := HC.out k hlt
      subst hA
      obtain ⟨hx0, hic⟩ := hx _ HB.out
      have HIc := Lib.hid hic
      clear hx hic
      have h8k := H8.out k hlt
      have HS := Lib.hid (HSn.out k hlt)
      have hlk := HLt.out k
      generalize cs.getD k [] = x at *
      go_wp2_with (first
        | (at_builtin; refine Kd.R_append_row (fun x : Int => Value.int .i64 x) 0 (w0 := w) w.heap.size rfl (.const (.slice none 0 0)) (.tmp 14) 40 3 (.int .i64 0) 8 rfl Tryz.underlying40 infoI rfl (by decide) (.slice none 0 0) ([] : List Int) x A1 x.length c1 (fun _ => True) rfl rfl (fun _ _ => trivial) (Kd.R_nil _ _ _ _ _) HIc.out HB.out HB.out.size (by simp; omega) ?_; intro v1 w1 hR1 hB1 hg1 hat1; rw [List.nil_append] at hR1; have HR1 := Lib.hid hR1; have HB1 := Lib.hid hB1; have HN1 := Lib.hid (Kd.N_grown HN.out hg1 (fun k hk => by simp [Value.ownBlock])); clear hR1 hB1 hg1 hat1; obtain ⟨Av, cv, ev⟩ := Kd.R_slice HR1.out; subst ev)
        | (at_builtin; refine Kd.N_append kL (w0 := w) w.heap.size rfl (.tmp 13) (.tmp 16) 22 40 (.slice none 0 0) 24 rfl Tryz.underlying22 infoL rfl (by decide) (by decide) _ (cs.take k) x [.slice Av x.length cv] (fun k => w.heap.size ≤ k) (fun k => some k = (Value.slice Av x.length cv).ownBlock) rfl rfl (kL_mk (Kd.R_reads' HR1.out).2.1 (Kd.R_F (Kd.R_tight rfl HR1.out))) (fun k hk => ⟨Kd.R_base HR1.out k hk.symm, by obtain ⟨cells, hcl⟩ := Kd.R_typed HR1.out k hk.symm; exact Kd.N_ne HN1.out hcl (by decide)⟩) (fun k hk => Nat.le_trans HB1.out.size hk) HN1.out HB1.out HB1.out.size (by omega) ?_; intro v2 w2 hN2 hB2 hg2 hat2; have HN2 := Lib.hid hN2; have HB2 := Lib.hid hB2; clear hN2 hB2 hg2 hat2))
      go_roundw
      case rel => exact ⟨k + 1, by omega, by go_num, by rw [HS.out]; exact HN2.out, HB2.out⟩
      case measure => simp [intOf]; omega
    · obtain rfl : k = n := by omega
      have hN2 := HN.out
      rw [HEnd.out] at hN2
      have HN2 := Lib.hid hN2
      clear hN2
      go_wp2
      go_ret
      exact ⟨_, rfl, HN2.out, HB.out⟩

end Go.Proofs.YtcaoobdbgdldaaaGreatDoor.Cn
