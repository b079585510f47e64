/- Part of the proof of ForwardScript: what the law uses of the text ScX. -/
import Derived.Test.YtcaoobdbgdldaaaGreatDoorZPScW
namespace Go.Proofs.YtcaoobdbgdldaaaGreatDoor.Sc
open Go.RowKit Go.Proofs.YtcaoobdbgdldaaaGreatDoor.Lit Go.Proofs.YtcaoobdbgdldaaaGreatDoor.Spr Go.Proofs.YtcaoobdbgdldaaaGreatDoor.P Go.Proofs.YtcaoobdbgdldaaaGreatDoor.Rf Go.Proofs.YtcaoobdbgdldaaaGreatDoor.Rfw Go.Proofs.YtcaoobdbgdldaaaGreatDoor.Cl Go.Proofs.YtcaoobdbgdldaaaGreatDoorW.PrintWords Go.Proofs.YtcaoobdbgdldaaaGreatDoorW.PrintLast
set_option linter.unusedVariables false
set_option linter.unusedSimpArgs false
theorem fresh_row {W : World} {B : Nat} {v : Value} {xs : List (List Int)} (h : Kd.N kL 40 W B (fun j => B ≤ j) v xs) (hl : 0 < xs.length) : ∃ g cap, v = .slice (some ⟨g, 0, none⟩) xs.length cap := by
  obtain ⟨_, rows, hlr, hR, _⟩ := h
  obtain ⟨A, c, he⟩ := Kd.R_slice hR
  subst he
  cases A with
  | none => 
    have := (Kd.R_reads' hR).2.2.2.2 (by omega)
    obtain ⟨ad, e, _⟩ := this
    cases e
  | some ad =>
    obtain ⟨g, rfl⟩ := Kd.R_head hR
    exact ⟨g, c, by rw [hlr]⟩

set_option maxHeartbeats 8000000 in
set_option maxRecDepth 100000 in
theorem rclauses_any (O : Nat → Prop) (w0 : World) (B b : Nat) (A : List (List Int)) (o : Bool) (w : World) (h : RfR O w0 B b A o w) (hok : RfOk A) :
    Calls Tryz.prog 48 #[.pointer (some ⟨b, 0, none⟩)] w fun e w' => Below w.heap.size w w' ∧ ∃ v, e = .returned v ∧ Kd.N kL 40 w' w.heap.size (fun j => w.heap.size ≤ j) v (rOut A A.length) := by
  obtain ⟨Ad, ca, hb, hN, hbw, hBb, _⟩ := h
  have hbl : b < w.heap.size := (Array.getElem?_eq_some_iff.1 hb).1
  have Hb : Hid (∀ W, Below w.heap.size w W → W.heap[b]? = some (Obj.cells #[.slice Ad A.length ca, .bool o] 85 (0, 0))) := Lib.hid fun W hw => (hw.block b hbl).trans hb
  have HN := Lib.hid hN
  have Hok := Lib.hid hok
  have Hrow := Lib.hid (fun k hk => row_at HN.out k hk)
  have hA : A.length ≤ 4194304 := hok.l
  have H8 := Lib.hid (fun k (hk : k < A.length) => show (A.getD k []).length ≤ 2097152 from hok.c8 _ (get_nth [] hk))
  have Hlen := Lib.hid (rOut_len A)
  have Hsuc := Lib.hid (fun k => show rOut A (k + 1) = bub k (rOut A k ++ [tidyL (A.getD k [])]) from rfl)
  have Hfm := Lib.hid (fun k (hk : k ≤ A.length) c (hc : c ∈ rOut A k) => show (∀ x ∈ c, fm x = true) ∧ c.length ≤ 2097152 from by
    obtain ⟨a, ha, rfl⟩ := rOut_mem A k hk c hc
    exact ⟨Fwd.tidy_fm a, by have := tidy_len a; have := hok.c8 a ha; omega⟩)
  clear hb hN hbw hok
  go_enter Tryz.func48, Tryz.ntmps48
  go_wp2
  go_loopw [3, 4] (fun v i wr => ∃ k : Nat, k ≤ A.length ∧ i = .int .i64 k ∧ Kd.N kL 40 wr w.heap.size (fun j => w.heap.size ≤ j) v (rOut A k) ∧ Below w.heap.size w wr) (fun _ i _ => A.length - (intOf i).toNat)
  case atStart => exact ⟨0, Nat.zero_le _, rfl, Kd.N_nil _ _ _ _ _, Below.refl _ _⟩
  case round =>
    obtain ⟨k, hk, rfl, hNk, hBk⟩ := hrel
    obtain ⟨r1, r2, r3, r4⟩ := two_cells (Hb.out wr hBk)
    obtain ⟨An, cn, evn⟩ := Kd.N_slice hNk
    subst evn
    have HNk := Lib.hid hNk
    have HBk := Lib.hid hBk
    have sk := hBk.size
    have hln := Hlen.out k
    clear hNk hBk
    by_cases hlt : k < A.length
    · obtain ⟨ad, A1, c1, hAd, hc1, hrow⟩ := Hrow.out k hlt
      subst hAd
      have hx := (hrow wr HBk.out).1
      have HC := Lib.hid (fun W hw => (hrow W hw).2.1)
      have h8 := H8.out k hlt
      have HT := Lib.hid (rtidy_any A1 c1 _ wr (HC.out wr HBk.out) hc1 h8)
      have Hs := Lib.hid (Hsuc.out k)
      have Hfk := Lib.hid (fun c (hc : c ∈ rOut A k) => Hfm.out k (by omega) c hc)
      have Htf := Lib.hid (show (∀ x ∈ tidyL (A.getD k []), fm x = true) ∧ (tidyL (A.getD k [])).length ≤ 2097152 from ⟨Fwd.tidy_fm _, by have := tidy_len (A.getD k []); omega⟩)
      clear hrow
      generalize tidyL (A.getD k []) = t at *
      generalize (A.getD k []).length = nx at *
      generalize rOut A k = ys at *
      subst hln
      go_upto_region 7 with (first
        | (go_at_call 82; refine HT.out.mono ?_; rintro e w4 ⟨v4, rfl, hR4, hb4⟩; have HB4 := Lib.hid (HBk.out.trans (hb4.mono sk)); have s4 := hb4.size; obtain ⟨A4, c4, e4⟩ := Kd.R_slice hR4; subst e4; have HR4 := Lib.hid hR4; have HN4 := Lib.hid (Kd.N_below HNk.out hb4); clear hR4 hb4)
        | (at_builtin; refine Kd.N_append kL (w0 := w) w.heap.size rfl (.tmp 25) (.tmp 27) 22 40 (.slice none 0 0) 24 rfl Tryz.underlying22 infoL rfl (by decide) (by decide) (.slice An ys.length cn) ys t [.slice A4 t.length c4] (fun j => w.heap.size ≤ j) (fun j => some j = (Value.slice A4 t.length c4).ownBlock) rfl rfl (kL_mk (Kd.R_reads' HR4.out).2.1 (Kd.R_F (Kd.R_tight rfl HR4.out))) (fun j hj => ⟨by have h7 := Kd.R_base HR4.out j hj.symm; omega, by obtain ⟨cells, hcl⟩ := Kd.R_typed HR4.out j hj.symm; exact Kd.N_ne HN4.out hcl (by decide)⟩) (fun j hj => by omega) HN4.out HB4.out (by omega) (by omega) ?_; intro v6 w6 hN6 hB6 hg6 hat6; have HN6 := Lib.hid hN6; have HB6 := Lib.hid hB6; clear hN6 hB6 hg6 hat6))
      obtain ⟨g, c6, e6⟩ := fresh_row HN6.out (by simp)
      rw [List.length_append, List.length_singleton] at e6
      subst e6
      have HFx := Lib.hid (show ∀ c ∈ ys ++ [t], (∀ x ∈ c, fm x = true) ∧ c.length ≤ 2097152 from fun c hc => by
        rcases List.mem_append.1 hc with h | h
        · exact Hfk.out c h
        · rw [List.mem_singleton.1 h]; exact Htf.out)
      have hlz : (ys ++ [t]).length = ys.length + 1 := by simp
      clear HR4 HN4 HT Hfk Htf HNk
      generalize ys ++ [t] = zs at *
      generalize hkk : ys.length = k at *
      have HTg := Lib.hid (show ∃ T, T = bub k zs from ⟨_, rfl⟩)
      obtain ⟨T, hT⟩ := HTg.out
      rw [← hT] at Hs
      have hT := Lib.hid hT
      clear HTg
      go_wp2
      go_loopw [6] (fun jv wx => ∃ (j : Nat) (xs : List (List Int)), j ≤ k ∧ jv = .int .i64 j ∧ xs.length = k + 1 ∧ Kd.N kL 40 wx w.heap.size (fun i => w.heap.size ≤ i) (.slice (some ⟨g, 0, none⟩) (k + 1) c6) xs ∧ Hid (bub j xs = T) ∧ Below w.heap.size w wx ∧ Hid (∀ c ∈ xs, (∀ x ∈ c, fm x = true) ∧ c.length ≤ 2097152)) (fun jv _ => (intOf jv).toNat)
      case atStart => exact ⟨k, zs, Nat.le_refl _, by go_num, hlz, HN6.out, Lib.hid hT.out.symm, HB6.out, HFx⟩
      case round =>
        obtain ⟨j, xs, hj, rfl, hlx, hNx, Hbx, hBx, Hfx⟩ := hrel
        have HNx := Lib.hid hNx
        have HBx := Lib.hid hBx
        clear hNx hBx HN6 HB6
        cases j with
        | zero =>
          have HT0 := Lib.hid (show xs = T from Hbx.out)
          go_upto_region 8 with (fail)
          go_quiet (fail)
          go_wp2
          go_roundw
          case rel => exact ⟨k + 1, by omega, by go_num, by rw [Hs.out, ← HT0.out]; exact Kd.N_drewN HNx.out _, HBx.out.trans (below_drewN (Below.refl _ _) _)⟩
          case measure => simp [intOf]; omega
        | succ j =>
          obtain ⟨Aj, cj, y1, y1f, y1c, y1C, y1K⟩ := out_at HNx.out (j + 1) (by omega)
          obtain ⟨Ai, ci, y0, y0f, y0c, y0C, y0K⟩ := out_at HNx.out j (by omega)
          have hxj := Hfx.out _ (get_nth [] (show j + 1 < xs.length by omega))
          have hxi := Hfx.out _ (get_nth [] (show j < xs.length by omega))
          have HAh := Lib.hid (fun q => ahead_any Aj cj _ Ai ci _ (wr.drewN q) (Kd.C_below y1C (below_drewN (Below.refl _ _) q)) y1c (Kd.C_below y0C (below_drewN (Below.refl _ _) q)) y0c hxj.1 hxi.1 hxj.2)
          have HK1 := Lib.hid (fun q => show Kd.FK kL (wr.drewN q) (fun i => w.heap.size ≤ i ∧ i ≠ g) (xs.getD (j + 1) []) [.slice Aj (xs.getD (j + 1) []).length cj] from fun W' hW => y1K W' hW)
          have HK0 := Lib.hid (fun q => show Kd.FK kL (wr.drewN q) (fun i => w.heap.size ≤ i ∧ i ≠ g) (xs.getD j []) [.slice Ai (xs.getD j []).length ci] from fun W' hW => y0K W' hW)
          have HSw := Lib.hid (show bub (j + 1) xs = if cmpL (xs.getD (j + 1) []) (xs.getD j []) < 0 then bub j (sw xs j) else xs from rfl)
          have HSs := Lib.hid (show sw xs j = (xs.set (j + 1) (xs.getD j [])).set j (xs.getD (j + 1) []) from rfl)
          have HSl := Lib.hid (show (sw xs j).length = k + 1 by rw [sw_len]; exact hlx)
          have HSf := Lib.hid (show ∀ c ∈ sw xs j, (∀ x ∈ c, fm x = true) ∧ c.length ≤ 2097152 from fun c hc => by
            unfold sw at hc
            rcases List.mem_or_eq_of_mem_set hc with h | h
            · rcases List.mem_or_eq_of_mem_set h with h | h
              · exact Hfx.out c h
              · rw [h]; exact hxi
            · rw [h]; exact hxj)
          clear y1C y0C y1K y0K hxj hxi
          by_cases hcm : cmpL (xs.getD (j + 1) []) (xs.getD j []) < 0
          · rw [if_pos hcm] at HSw
            rw [decide_eq_true hcm] at HAh
            clear hcm
            generalize xs.getD (j + 1) [] = p1 at *
            generalize xs.getD j [] = p0 at *
            go_upto_region 8 with (fail)
            go_quiet ((go_at_call 83; exact Calls.quiet_of (HAh.out _)))
            go_wp2
            have hwg : w.heap.size ≤ g := Kd.N_base HNx.out g rfl
            have q1 := out_put (Kd.N_drewN HNx.out nq) (j + 1) (by omega) (HK0.out nq)
            have q2 := out_put q1.1 j (by omega) (Kd.FK_step (HK1.out nq) (fun i hi hl => Below.heap_setCell _ ⟨g, j + 1, none⟩ _ i hi.2))
            rw [← HSs.out] at q2
            exact ⟨⟨j, sw xs j, by omega, rfl, HSl.out, q2.1, Lib.hid (HSw.out.symm.trans Hbx.out), ((HBx.out.trans (below_drewN (Below.refl _ _) _)).setCell (p := ⟨g, j + 1, none⟩) hwg _).setCell (p := ⟨g, j, none⟩) hwg _, HSf⟩, by simp [intOf]⟩
          · rw [if_neg hcm] at HSw
            rw [decide_eq_false hcm] at HAh
            have HT0 := Lib.hid (show xs = T from HSw.out.symm.trans Hbx.out)
            clear hcm
            generalize xs.getD (j + 1) [] = p1 at *
            generalize xs.getD j [] = p0 at *
            go_upto_region 8 with (fail)
            go_quiet ((go_at_call 83; exact Calls.quiet_of (HAh.out _)))
            go_wp2
            go_roundw
            case rel => exact ⟨k + 1, by omega, by go_num, by rw [Hs.out, ← HT0.out]; exact Kd.N_drewN HNx.out _, HBx.out.trans (below_drewN (Below.refl _ _) _)⟩
            case measure => simp [intOf]; omega
    · obtain rfl : k = A.length := by omega
      go_wp2
      go_ret
      exact ⟨HBk.out, _, rfl, HNk.out⟩
end Go.Proofs.YtcaoobdbgdldaaaGreatDoor.Sc
