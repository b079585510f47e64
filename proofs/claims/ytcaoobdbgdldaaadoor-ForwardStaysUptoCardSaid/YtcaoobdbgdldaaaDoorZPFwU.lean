/- Part of the proof of ForwardStays: what the law uses of the text FwU. -/
import Derived.Test.YtcaoobdbgdldaaaDoorZPFwT
namespace Go.Proofs.YtcaoobdbgdldaaaDoor.Fwd
open Go.RowKit Go.Shelf Go.Maps Go.Proofs.YtcaoobdbgdldaaaDoor.Lit Go.Proofs.YtcaoobdbgdldaaaDoor.Spr Go.Proofs.YtcaoobdbgdldaaaDoor.P Go.Proofs.YtcaoobdbgdldaaaDoorW.PrintWords Go.Proofs.YtcaoobdbgdldaaaDoorW.PrintLast
set_option linter.unusedVariables false
set_option linter.unusedSimpArgs false

structure TFits (cs : List (List Int)) (l : List S37) : Prop where
  cl : cs.length ≤ 1048576
  c8 : ∀ c ∈ cs, c.length ≤ 1048576
  ll : l.length ≤ 1048576
  l8 : ∀ s ∈ l, s.f1.length ≤ 1048576

set_option maxHeartbeats 8000000 in
set_option maxRecDepth 100000 in
theorem stays_no (v : Int) (A : Option Addr) (c0 : Nat) (nc : Nat) (As : Option Addr) (cq : Nat) (n : Nat) (x y z : Int) (hx : x ≠ 1) (hz : z = 0 ∨ z = 1) (w : World) (hT : Tab w)
    (HCk : Hid (∀ w2, Below w.heap.size w w2 → Calls Tryd.prog 6 #[.agg #[.int .i64 v, .slice A nc c0], .slice As n cq] w2 (CheckPost w2 (x, y, z)))) :
    Calls Tryd.prog 4 #[.agg #[.int .i64 v, .slice A nc c0], .slice As n cq] w fun e w' => e = .returned (.bool true) ∧ Below w.heap.size w w' := by
  have HW := Lib.hid (FBox.init w v (.slice A nc c0))
  obtain ⟨hc0, hc1, hc2⟩ := HW.out.cell
  have HA := Lib.hid (fun (w2 : World) (hb : Below w.heap.size w w2) => awake_any w2 (hT.below hb))
  clear hT
  unfold CheckPost at HCk
  have hxb : (x != 1) = true := by simpa using hx
  rcases hz with rfl | rfl
  · go_enter Tryd.func4, Tryd.ntmps4
    go_wp2_with (first
      | (go_at_call 5; refine (HA.out _ HW.out.below).mono ?_; rintro e w2 ⟨rfl, hb⟩; have HW2 := Lib.hid (HW.out.step hb); clear hb; obtain ⟨hc20, hc21, hc22⟩ := HW2.out.cell)
      | (go_at_call 6; refine (HCk.out _ HW2.out.below).mono ?_; rintro e w3 ⟨rfl, hb⟩; have HW3 := Lib.hid (HW2.out.step hb); clear hb))
    go_ret
    exact ⟨rfl, HW3.out.below.alloc HW3.out.below.size _⟩
  · go_enter Tryd.func4, Tryd.ntmps4
    go_wp2_with (first
      | (go_at_call 5; refine (HA.out _ HW.out.below).mono ?_; rintro e w2 ⟨rfl, hb⟩; have HW2 := Lib.hid (HW.out.step hb); clear hb; obtain ⟨hc20, hc21, hc22⟩ := HW2.out.cell)
      | (go_at_call 6; refine (HCk.out _ HW2.out.below).mono ?_; rintro e w3 ⟨rfl, hb⟩; have HW3 := Lib.hid (HW2.out.step hb); clear hb))
    go_ret
    exact ⟨rfl, HW3.out.below.alloc HW3.out.below.size _⟩

set_option maxHeartbeats 16000000 in
set_option maxRecDepth 100000 in
theorem stays_yes (v : Int) (A : Option Addr) (c0 : Nat) (cs : List (List Int)) (As : Option Addr) (cq : Nat) (l : List S37) (w : World) (hC : RC w A cs) (hS : Kd.C k37 w As l.length l) (hS0 : l.length ≤ cq) (hF : TFits cs l) (hT : Tab w) (hp : formedB v cs = true) (h1 : (stepsW (newW cs) 0 (stp l)).1 = 1) :
    Calls Tryd.prog 4 #[.agg #[.int .i64 v, .slice A cs.length c0], .slice As l.length cq] w fun e w' => e = .returned (.bool true) ∧ Below w.heap.size w w' := by
  obtain ⟨K, hK, hz0, hK1⟩ := steps_first (newW cs) (stp l) h1
  rw [stp_len] at hK
  have HW := Lib.hid (FBox.init w v (.slice A cs.length c0))
  obtain ⟨hc0, hc1, hc2⟩ := HW.out.cell
  have HA := Lib.hid (fun (w2 : World) (hb : Below w.heap.size w w2) => awake_any w2 (hT.below hb))
  have HTb := Lib.hid (fun (w2 : World) (hb : Below w.heap.size w w2) => Lib.tabBelow_of_tabIs (hT.below hb))
  have HCk := Lib.hid (fun (w2 : World) (hb : Below w.heap.size w w2) => show Calls Tryd.prog 6 #[.agg #[.int .i64 v, .slice A cs.length c0], .slice As l.length cq] w2 (CheckPost w2 (1, (stepsW (newW cs) 0 (stp l)).2, 0)) from by
    have := check_any v A c0 cs As cq (stp l) w2 (hC.below hb) (sc_of_C (Kd.C_below hS hb)) (by have := hF.cl; omega) (fun c hc => by have := hF.c8 c hc; omega) (by rw [stp_len]; have := hF.ll; omega) (fun s hs => by have := stp_8 hF.l8 s hs; omega) (hT.below hb)
    rw [stp_len] at this
    unfold checkW at this
    rw [if_pos hp, h1] at this
    exact this)
  have HCm := Lib.hid (fun (ha : ∀ j, j ≤ K → ((stp l).getD j (false, [])).1 = false → (addW (runW (newW cs) ((stp l).take j)) ((stp l).getD j (false, [])).2).1 = 1) (w2 : World) (hb : Below w.heap.size w w2) (A2 : Option Addr) (c2 : Nat) (N2 : Nat) (h2 : SC w2 A2 (stp (lft l (K + 1)))) (hN2 : (lft l (K + 1)).length = N2) => show Calls Tryd.prog 6 #[.agg #[.int .i64 v, .slice A cs.length c0], .slice A2 N2 c2] w2 (CheckPost w2 (1, (N2 : Int) - 1, 0)) from by
    have hle := lft_len l (K + 1)
    have := check_any v A c0 cs A2 c2 (stp (lft l (K + 1))) w2 (hC.below hb) h2 (by have := hF.cl; omega) (fun c hc => by have := hF.c8 c hc; omega) (by rw [stp_len]; have := hF.ll; omega) (fun s hs => by
      have : s.2.length ≤ 1048576 := stp_8 (l := lft l (K + 1)) (fun x hx => hF.l8 x (lft_mem hx)) s hs
      omega) (hT.below hb)
    rw [stp_len, hN2] at this
    unfold checkW at this
    rw [if_pos hp] at this
    have hst := stay_steps (stp l) _ _ (rel_new cs) K (by rw [stp_len]; exact hK) hz0 hK1 ha 0
    rw [← lft_stp, stp_len, hN2, Nat.zero_add] at hst
    rw [hst] at this
    exact this)
  have HN := Lib.hid (fun (w2 : World) (hb : Below w.heap.size w w2) => show Calls Tryd.prog 7 #[.agg #[.int .i64 v, .slice A cs.length c0]] w2 (fun e w' => ∃ b m, e = .returned (.tuple #[.pointer (some ⟨b, 0, none⟩), .int .i64 0]) ∧ FwR w2 w2.heap.size b m cs.length (newW cs) w') from by
    have := new_any v A c0 cs w2 (hC.below hb) (by have := hF.cl; omega) (fun c hc => by have := hF.c8 c hc; omega) (hT.below hb)
    unfold NewPost at this
    simp only [hp, ↓reduceIte] at this
    exact this)
  have hnl := hF.ll
  have hncl := hF.cl
  have HKl := Lib.hid (fun k (hk : k < l.length) => show ∃ A1 c1, As ≠ none ∧ k37.K w (rd_T37 l (k : Int)) [.bool ((stp l).getD k (false, [])).1, .slice A1 ((stp l).getD k (false, [])).2.length c1] ∧ IC w A1 ((stp l).getD k (false, [])).2 ∧ ∀ w2, Below w.heap.size w w2 → ∃ ad, As = some ad ∧ w2.cell? (ad.add (k * 2)) = some (.bool ((stp l).getD k (false, [])).1) ∧ w2.cell? ⟨(ad.add (k * 2)).block, (ad.add (k * 2)).off + 1, none⟩ = some (.slice A1 ((stp l).getD k (false, [])).2.length c1) from by
    obtain ⟨ad, A1, c1, e, h1, h2, l1, h3⟩ := at_T37 hS (k : Int) (by omega) (by omega)
    rw [Int.toNat_natCast] at h1 h2
    rw [stp_get l k hk, ← rd_get l k hk]
    refine ⟨A1, c1, by rw [e]; simp, k37_mk w _ l1 h3, ic_of_C h3, fun w2 hb => ⟨ad, e, ?_, ?_⟩⟩
    · exact (hb.cell (World.block_lt_of_cell? w _ h1)).trans h1
    · exact (hb.cell (World.block_lt_of_cell? w _ h2)).trans h2)
  have H8 := Lib.hid (fun k (hk : k < l.length) => show ((stp l).getD k (false, [])).2.length ≤ 1048576 from stp_8 hF.l8 _ (by rw [List.getD_eq_getElem?_getD, List.getElem?_eq_getElem (by rw [stp_len]; exact hk)]; exact List.getElem_mem _))
  have HSn := Lib.hid (fun k (hk : k < l.length) => show runW (newW cs) ((stp l).take (k + 1)) = (takeW (runW (newW cs) ((stp l).take k)) ((stp l).getD k (false, [])).1 ((stp l).getD k (false, [])).2).2 by rw [← runW_snoc, List.take_add_one, List.getD_eq_getElem?_getD, List.getElem?_eq_getElem (by rw [stp_len]; exact hk)]; rfl)
  have HLf := Lib.hid (fun k (hk : k < l.length) => show lft l (k + 1) = if ((stp l).getD k (false, [])).1 = true then lft l k else lft l k ++ [rd_T37 l (k : Int)] from by rw [stp_get l k hk, rd_get l k hk]; exact lft_succ l k hk)
  have HAm := Lib.hid (fun k => (AM.new cs).run ((stp l).take k))
  have HDn := Lib.hid (show ∀ k, k ≤ K → (runW (newW cs) ((stp l).take k)).done = false from fun k hk => run_done (new_done cs) (stp l) k (by rw [stp_len]; omega) (fun j hj => hz0 j (by omega)))
  have HDK := Lib.hid (show (runW (newW cs) ((stp l).take (K + 1))).done = true from by rw [HSn.out K hK]; exact take_one hK1)
  have HLl := Lib.hid (fun k => lft_len l k)
  unfold CheckPost at HCk HCm
  clear hC hS hF hT hp hS0 hz0 hK1 h1
  generalize hnc : cs.length = nc at *
  clear hnc
  generalize newW cs = F0 at *
  generalize hL : stp l = L at *
  clear hL
  generalize (stepsW F0 0 L).2 = r2 at *
  generalize hn : l.length = n at *
  have HLn := Lib.hid hn
  clear hn
  go_enter Tryd.func4, Tryd.ntmps4
  go_upto_block 0 with (first
    | (go_at_call 5; refine (HA.out _ HW.out.below).mono ?_; rintro e w2 ⟨rfl, hb⟩; have HW2 := Lib.hid (HW.out.step hb); clear hb; obtain ⟨hc20, hc21, hc22⟩ := HW2.out.cell)
    | (go_at_call 6; refine (HCk.out _ HW2.out.below).mono ?_; rintro e w3 ⟨rfl, hb⟩; have HW3 := Lib.hid (HW2.out.step hb); clear hb; obtain ⟨hc30, hc31, hc32⟩ := HW3.out.cell; have HW4 := Lib.hid (HW3.out.step ((Below.refl _ _).alloc (Nat.le_refl _) _) : FBox w v (.slice A nc c0) (w3.alloc (.cells #[.int .i64 1, .int .i64 r2] 28))); obtain ⟨hc40, hc41, hc42⟩ := HW4.out.cell)
    | (go_at_call 7; refine (HN.out _ HW4.out.below).mono ?_; rintro e w5 ⟨b, m, rfl, hr⟩; have HI := Lib.hid hr; have HW5 := Lib.hid (HW4.out.keep (hr.base.mono HW4.out.below.size) hr.kp); clear hr))
  have HTb4 := Lib.hid (HTb.out _ HW4.out.below)
  have HB4 := Lib.hid (show w.heap.size < (w3.alloc (.cells #[.int .i64 1, .int .i64 r2] 28)).heap.size from HW4.out.cell.2.2)
  generalize w3.alloc (.cells #[.int .i64 1, .int .i64 r2] 28) = W4 at HTb4 HB4 HI
  clear HA HCk HN HTb HW4 HW3 HW2 HW hc0 hc1 hc2 hc20 hc21 hc22 hc30 hc31 hc32 hc40 hc41 hc42
  go_cut [8, 9, 10, 11] (fun sl _ _ _ wx => FBox w v (.slice A nc c0) wx ∧ LeftR w W4.heap.size sl (lft l (K + 1)) wx ∧ Hid (∀ j, j ≤ K → (L.getD j (false, [])).1 = false → (addW (runW F0 (L.take j)) (L.getD j (false, [])).2).1 = 1))
  case first =>
    go_wp2_with (fail)
    go_loopw [8, 9] (fun sl i wr => ∃ k : Nat, k ≤ K + 1 ∧ i = .int .i64 k ∧ FBox w v (.slice A nc c0) wr ∧ LeftR w W4.heap.size sl (lft l k) wr ∧ FwR W4 W4.heap.size b m (nc + k) (runW F0 (L.take k)) wr ∧ Hid (∀ j, j < k → (L.getD j (false, [])).1 = false → (addW (runW F0 (L.take j)) (L.getD j (false, [])).2).1 = 1)) (fun _ i _ => n - (intOf i).toNat)
    case atStart => exact ⟨0, Nat.zero_le _, rfl, HW5.out, by rw [lft_zero]; exact LeftR.nil _ _ _, HI.out, Lib.hid (fun j hj => absurd hj (by omega))⟩
    case round =>
      obtain ⟨k, hk, rfl, hfb, hlf, hr, ha⟩ := hrel
      have HFB := Lib.hid hfb
      have HLr := Lib.hid hlf
      have HK := Lib.hid hr
      clear hfb hlf hr
      by_cases hkK : k ≤ K
      · have hlt : k < n := by omega
        obtain ⟨A1, c1, hAs, hKk, hicw, hcell⟩ := HKl.out k hlt
        obtain ⟨ad, hA, hx, hy⟩ := hcell _ HFB.out.below
        have HX := Lib.hid (show ∀ w2, Below w.heap.size w w2 → w2.cell? (ad.add (k * 2)) = some (.bool (L.getD k (false, [])).1) ∧ w2.cell? ⟨(ad.add (k * 2)).block, (ad.add (k * 2)).off + 1, none⟩ = some (.slice A1 (L.getD k (false, [])).2.length c1) from fun w2 hb => by
          obtain ⟨ad', e, h⟩ := hcell w2 hb
          rw [hA] at e
          injection e with e
          subst e
          exact h)
        subst hA
        clear hAs hcell
        have HKk := Lib.hid hKk
        clear hKk
        have hic := hicw.below HFB.out.below
        clear hicw
        have h8k := H8.out k hlt
        have hgd := HDn.out k hkK
        have HD := Lib.hid (drop_any wr _ b m (nc + k) (runW F0 (L.take k)) A1 c1 (L.getD k (false, [])).2 wr HK.out.rebase hic (by omega) (HTb4.out.on HK.out.base) (by omega) (HAm.out k))
        have HAd := Lib.hid (add_any wr _ b m (nc + k) (runW F0 (L.take k)) A1 c1 (L.getD k (false, [])).2 wr HK.out.rebase hic (by omega) (HTb4.out.on HK.out.base) (by omega))
        have HSk := Lib.hid (HSn.out k hlt)
        have HLk := Lib.hid (HLf.out k hlt)
        have HDo := Lib.hid (show Calls Tryd.prog 10 #[.pointer (some ⟨b, 0, none⟩)] wr (fun e w' => e = .returned (.bool false) ∧ w' = wr) from by
          have := done_any W4 _ b m _ _ wr HK.out
          rw [hgd] at this
          exact this)
        have hll := HLl.out k
        clear hgd hic
        generalize hs : L.getD k (false, []) = s at *
        have HSs := Lib.hid hs
        clear hs
        obtain ⟨d, c⟩ := s
        dsimp only at *
        generalize hF : runW F0 (L.take k) = F at *
        have HF := Lib.hid hF
        clear hF
        unfold DropPost at HD
        unfold AddPost at HAd
        have HTe := Lib.hid (takeW_eq F d c)
        generalize hrd : dropW F c = rd at *
        have HRd := Lib.hid hrd
        clear hrd
        generalize hra : addW F c = ra at *
        have HRad := Lib.hid hra
        clear hra
        obtain ⟨d1, d2, G⟩ := rd
        obtain ⟨a1, a2, H⟩ := ra
        dsimp only at *
        generalize hcl : c.length = nl at *
        have HCl := Lib.hid hcl
        clear hcl
        cases d with
        | true =>
          clear HAd HRad
          go_wp2_with (first
            | (go_at_call 10; refine HDo.out.mono ?_; rintro e w7 ⟨rfl, rfl⟩)
            | (go_at_call 8; refine HD.out.mono ?_; rintro e w6 ⟨rfl, hr6⟩; have HJ := Lib.hid (HK.out.join hr6); have HFB6 := Lib.hid (HFB.out.keep (hr6.base.mono (Nat.le_of_lt HB4.out)) hr6.kp); have HLr6 := Lib.hid (HLr.out.keep hr6.kp); clear hr6))
          go_roundw
          case rel =>
            refine ⟨k + 1, by omega, by go_num, HFB6.out, ?_, ?_, Lib.hid (fun j hj hd => ?_)⟩
            · rw [HLk.out]; simp only [↓reduceIte]; exact HLr6.out
            · rw [HSk.out, HTe.out]; simp only [↓reduceIte]; exact HJ.out
            · rcases Nat.lt_or_ge j k with h | h
              · exact ha.out j h hd
              · obtain rfl : j = k := by omega
                rw [HSs.out] at hd; cases hd
          case measure => simp [intOf]; omega
        | false =>
          clear HD HRd
          by_cases h2 : a2 = 0
          · subst h2
            by_cases h1 : a1 = 1
            · subst h1
              obtain ⟨rows, hrl, hR, hrk⟩ := HLr.out
              have HRl := Lib.hid hrl
              have HRk := Lib.hid hrk
              clear hR hrk
              go_wp2_with (first
                | (go_at_call 10; refine HDo.out.mono ?_; rintro e w7 ⟨rfl, rfl⟩)
                | (go_at_call 9; refine HAd.out.mono ?_; rintro e w6 ⟨rfl, hr6⟩; have HJ := Lib.hid (HK.out.join hr6); have HFB6 := Lib.hid (HFB.out.keep (hr6.base.mono (Nat.le_of_lt HB4.out)) hr6.kp); have HLr6 := Lib.hid (HLr.out.keep hr6.kp); clear hr6; obtain ⟨hx6, hy6⟩ := HX.out _ HFB6.out.below; clear hrl HRl HRk; obtain ⟨rows6, hrl6, hR6, hrk6⟩ := HLr6.out; have HR6 := Lib.hid hR6; have HRk6 := Lib.hid hrk6; clear hR6 hrk6)
                | (at_builtin; refine Kd.R_append (Kd.raw 2) (w0 := W4) W4.heap.size rfl (.tmp 81) (.tmp 86) 25 37 (.agg #[.bool false, .slice none 0 0]) 32 rfl Tryd.underlying25 (by kernel_rfl) rfl (by decide) (by decide) _ rows6 [.bool false, .slice A1 nl c1] [.bool false, .slice A1 nl c1] (fun _ => True) (fun _ => False) rfl rfl ⟨rfl, rfl, fun u hu => by simp at hu; rcases hu with rfl | rfl <;> rfl⟩ (fun _ h => h.elim) (fun _ _ => trivial) HR6.out HJ.out.base HJ.out.base.size (by rw [hrl6]; omega) ?_; intro v7 w7 hR7 hb7 hg7 hat7; have HJ7 := Lib.hid (HJ.out.grownL (Nat.le_refl _) hg7 HLr6.out.typed); have HFB7 := Lib.hid (HFB6.out.grownL hg7 (fun k hk => Nat.lt_of_lt_of_le HB4.out (HLr6.out.typed k hk).1)); have HLr7 := Lib.hid (LeftR.more hrl6 HRk6.out HKk.out hR7); clear hR7 hb7 hg7 hat7))
              go_roundw
              case rel =>
                refine ⟨k + 1, by omega, by go_num, HFB7.out, ?_, ?_, Lib.hid (fun j hj hd => ?_)⟩
                · rw [HLk.out]; simp only [Bool.false_eq_true, ↓reduceIte]; exact HLr7.out
                · rw [HSk.out, HTe.out]; simp only [Bool.false_eq_true, ↓reduceIte]; exact HJ7.out
                · rcases Nat.lt_or_ge j k with h | h
                  · exact ha.out j h hd
                  · obtain rfl : j = k := by omega
                    rw [HSs.out, HF.out]; show (addW F c).1 = 1; rw [HRad.out]
              case measure => simp [intOf]; omega
            · have h1b : (a1 != 1) = true := by simpa using h1
              go_wp2_with (first
                | (go_at_call 10; refine HDo.out.mono ?_; rintro e w7 ⟨rfl, rfl⟩)
                | (go_at_call 9; refine HAd.out.mono ?_; rintro e w6 ⟨rfl, hr6⟩; have HFB6 := Lib.hid (HFB.out.keep (hr6.base.mono (Nat.le_of_lt HB4.out)) hr6.kp); clear hr6))
              go_ret
              exact ⟨rfl, HFB6.out.below⟩
          · have h2b : (a2 != 0) = true := by simpa using h2
            go_wp2_with (first
              | (go_at_call 10; refine HDo.out.mono ?_; rintro e w7 ⟨rfl, rfl⟩)
              | (go_at_call 9; refine HAd.out.mono ?_; rintro e w6 ⟨rfl, hr6⟩; have HFB6 := Lib.hid (HFB.out.keep (hr6.base.mono (Nat.le_of_lt HB4.out)) hr6.kp); clear hr6))
            go_ret
            exact ⟨rfl, HFB6.out.below⟩
      · obtain rfl : k = K + 1 := by omega
        have HDo := Lib.hid (show Calls Tryd.prog 10 #[.pointer (some ⟨b, 0, none⟩)] wr (fun e w' => e = .returned (.bool true) ∧ w' = wr) from by
          have := done_any W4 _ b m _ _ wr HK.out
          rw [HDK.out] at this
          exact this)
        have HHa := Lib.hid (fun j (hj : j ≤ K) hd => ha.out j (by omega) hd)
        clear ha
        by_cases hlt : K + 1 < n
        · go_wp2_with (first
            | (go_at_call 10; refine HDo.out.mono ?_; rintro e w7 ⟨rfl, rfl⟩))
          go_meet
          exact ⟨HFB.out, HLr.out, HHa⟩
        · obtain rfl : K + 1 = n := by omega
          go_wp2
          go_meet
          exact ⟨HFB.out, HLr.out, HHa⟩
  case rest =>
    obtain ⟨hfb, hlf, ha⟩ := hcut
    have HFB := Lib.hid hfb
    obtain ⟨hf0, hf1, hf2⟩ := HFB.out.cell
    obtain ⟨A2, c2, e, hsc⟩ := hlf.sc hfb.below
    subst e
    have HCl := Lib.hid (fun N2 (h : (lft l (K + 1)).length = N2) => HCm.out ha.out wc hfb.below A2 c2 N2 hsc h)
    have hll := HLl.out (K + 1)
    clear hfb hlf hsc ha HCm HLf HKl HSn HAm HDn HDK HTb4 HI H8 HW5
    generalize hN2 : (lft l (K + 1)).length = N2 at *
    have HCl := Lib.hid (HCl.out N2 rfl)
    go_wp2_with (first
      | (go_at_call 6; refine HCl.out.mono ?_; rintro e w6 ⟨rfl, hb⟩; have HFB6 := Lib.hid (HFB.out.step hb); clear hb))
    go_ret
    exact ⟨by simp, HFB6.out.below.alloc HFB6.out.below.size _⟩

end Go.Proofs.YtcaoobdbgdldaaaDoor.Fwd
