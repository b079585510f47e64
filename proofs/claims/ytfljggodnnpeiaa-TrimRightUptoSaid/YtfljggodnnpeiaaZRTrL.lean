/- Part of the proof of TrimRight: what the law uses of the text TrL. -/
import Derived.Test.YtfljggodnnpeiaaZRTrM
import Derived.Test.YtfljggodnnpeiaaZRTrD
namespace Go.Proofs.Ytfljggodnnpeiaa.Trm
open Go.RowKit Go.Maps Go.Shelf Go.Proofs Go.Proofs.Ytfljggodnnpeiaa.Lit Go.Proofs.Ytfljggodnnpeiaa.Spr Go.Proofs.Ytfljggodnnpeiaa.P
open Go.Proofs.YtfljggodnnpeiaaW.PrintWords hiding own_slice own_base own_lt own_move
set_option linter.unusedVariables false
set_option linter.unusedSimpArgs false

def resT (cs : List (List Int)) (r : Option (List (List Int))) : List Int × List (List Int) × Int := match r with | none => ([], [], 120) | some added => trimG cs added
def TrimPost (w : World) (r : List Int × List (List Int) × Int) (e : Ending) (w' : World) : Prop := ∃ v0 v1, e = .returned (.tuple #[v0, v1, .int .i64 r.2.2]) ∧ Kd.R (Kd.int .i64) 3 w' w.heap.size (fun _ => True) v0 r.1 ∧ Kd.S k79 79 w' w.heap.size (fun k_ => some k_ ≠ (v0 : Value).ownBlock) v1 (stepsL r.2.1) ∧ Below w.heap.size w w'
theorem TrimPost.none {w w' : World} (hb : Below w.heap.size w w') (n : Int) : TrimPost w ([], [], n) (.returned (.tuple #[.slice none 0 0, .slice none 0 0, .int .i64 n])) w' :=
  ⟨_, _, rfl, Kd.R_nil _ _ _ _ _, Kd.S_nil _ _ _ _ _, hb⟩
set_option maxHeartbeats 8000000 in
set_option maxRecDepth 100000 in
theorem trim_any (v : Int) (A : Option Addr) (c : Nat) (cs : List (List Int)) (As : Option Addr) (cq : Nat) (l : List (Bool × List Int)) (w : World) (hC : Kd.C (Kd.slice 3 (Kd.int .i64)) w A cs.length cs) (hS : SF w As l)
    (hn : cs.length ≤ 2097152) (hr : ∀ x ∈ cs, x.length ≤ 4194304) (hl : l.length ≤ 2097152) (h8 : ∀ s ∈ l, s.2.length ≤ 4194304) :
    Calls Try.prog 44 #[.agg #[.int .i64 v, .slice A cs.length c], .slice As l.length cq] w (TrimPost w (trimR v cs l)) := by
  obtain ⟨X, hX⟩ : ∃ X, w.alloc (Obj.cells #[.int .i64 v, .slice A cs.length c] 24) = X := ⟨_, rfl⟩
  have hbX : Below w.heap.size w X := by rw [← hX]; exact (Below.refl _ _).alloc (Nat.le_refl _) _
  have HF := Lib.hid (cformed_any v A c cs X (rc_of_C (Kd.C_below hC hbX)) (by omega) (fun x hx => by have := hr x hx; omega))
  have HCo := Lib.hid (fun (w2 : World) (hb : Below w.heap.size w w2) => contains_any As cq l w2 ((hS.later hb).sf hb.size) (by omega) h8)
  have HAd := Lib.hid (fun (w2 : World) (hb : Below w.heap.size w w2) => additions_any As cq l w2 w.heap.size (hS.later hb) hb.size (by omega) h8)
  have HbX := Lib.hid hbX
  have hall : (l.all fun s => s.2.all fm) = !l.any badS := by unfold badS; simp [List.all_eq_not_any_not]
  unfold trimR
  rw [hall]
  obtain ⟨p, hp⟩ : ∃ p, formedB v cs = p := ⟨_, rfl⟩
  obtain ⟨q, hq⟩ : ∃ q, l.any badS = q := ⟨_, rfl⟩
  rw [hp] at HF
  rw [hq] at HCo
  rw [hp, hq]
  clear hall hbX
  subst hX
  cases p with
  | false =>
    rw [Bool.false_and, if_neg Bool.false_ne_true]
    go_enter Try.func44, Try.ntmps44
    go_wp2_with (first
      | (go_at_call 61; refine HF.out.mono ?_; rintro e w3 ⟨rfl, hb⟩; have HB3 := Lib.hid (HbX.out.trans (hb.mono HbX.out.size)); clear hb))
    go_ret3
    exact TrimPost.none HB3.out 1
  | true =>
    rw [Bool.true_and]
    cases q with
    | true =>
      rw [Bool.not_true, if_neg Bool.false_ne_true]
      go_enter Try.func44, Try.ntmps44
      go_wp2_with (first
        | (go_at_call 61; refine HF.out.mono ?_; rintro e w3 ⟨rfl, hb⟩; have HB3 := Lib.hid (HbX.out.trans (hb.mono HbX.out.size)); clear hb)
        | (go_at_call 90; refine (HCo.out w3 HB3.out).mono ?_; rintro e w4 ⟨rfl, hb⟩; have HB4 := Lib.hid (HB3.out.trans (hb.mono HB3.out.size)); clear hb))
      go_ret3
      exact TrimPost.none HB4.out 1
    | false =>
      rw [Bool.not_false, if_pos rfl]
      generalize hg : addsL l = r at *
      have Hg := Lib.hid hg
      have HFit := Lib.hid (fun (added : List (List Int)) (h : r = some added) => show KFits (cs ++ added) from by
        have h1 := adds_len l
        have h2 := adds_mem l
        rw [hg, h] at h1 h2
        simp only [Option.getD_some] at h1 h2
        unfold formedB at hp
        simp only [Bool.and_eq_true, List.all_eq_true] at hp
        refine ⟨by simp; omega, fun x hx => ?_, fun x hx y hy => ?_⟩
        · rcases List.mem_append.1 hx with hx | hx
          · exact hr x hx
          · obtain ⟨s, hs, rfl⟩ := h2 x hx; exact h8 s hs
        · rcases List.mem_append.1 hx with hx | hx
          · have := hp.2 x hx
            unfold withinB at this
            simp only [Bool.and_eq_true, List.all_eq_true] at this
            exact this.1 y hy
          · obtain ⟨s, hs, rfl⟩ := h2 x hx
            have := List.any_eq_false.1 hq s hs
            unfold badS at this
            simp only [Bool.not_eq_true', Bool.not_eq_false] at this
            exact (List.all_eq_true.1 (by simpa using this)) y hy)
      have HPos := Lib.hid (fun (added : List (List Int)) (h : r = some added) => adds_pos l added (hg.trans h))
      clear hg
      change Calls _ _ _ _ (TrimPost w (resT cs r))
      generalize hres : resT cs r = res at *
      have HRes := Lib.hid hres
      clear hres
      go_enter Try.func44, Try.ntmps44
      go_upto_region 4 with (first
        | (go_at_call 61; refine HF.out.mono ?_; rintro e w3 ⟨rfl, hb⟩; have HB3 := Lib.hid (HbX.out.trans (hb.mono HbX.out.size)); have HX3 := Lib.hid hb; clear hb)
        | (go_at_call 90; refine (HCo.out w3 HB3.out).mono ?_; rintro e w4 ⟨rfl, hb⟩; have HB4 := Lib.hid (HB3.out.trans (hb.mono HB3.out.size)); have HX4 := Lib.hid (HX3.out.trans (hb.mono HX3.out.size)); clear hb)
        | (go_at_call 93; refine (HAd.out w4 HB4.out).mono ?_; rintro e w5 ⟨v5, vs, rfl, hb, ho, hrw⟩; have HX5 := Lib.hid (HX4.out.trans (hb.mono HX4.out.size)); have HB5 := Lib.hid (HB4.out.trans (hb.mono HB4.out.size)); have HO := Lib.hid ho; have HRw := Lib.hid hrw; clear hb ho hrw))
      obtain ⟨A5, c5, rfl⟩ := own_slice HO.out
      obtain ⟨fs, hfs⟩ : ∃ fs, cellsOf w5 A cs.length = fs := ⟨_, rfl⟩
      have hrc := rows_of_C (Kd.C_below hC HB5.out)
      have hrc0 := rows_of_C hC
      have hadd := adds_len l
      rw [Hg.out] at hadd
      have hfe : cellsOf w A cs.length = fs := by
        rw [← hfs]
        refine List.map_congr_left fun k hk => ?_
        cases A with
        | none => rfl
        | some ad =>
          show (w.cell? _).getD _ = (w5.cell? _).getD _
          obtain ⟨ad', e, hx⟩ := hrc0.1 k (by rw [hrc0.2.1]; exact List.mem_range.1 hk)
          cases e
          rw [HB5.out.cell (World.block_lt_of_cell? w _ hx)]
      rw [hfe] at hrc0
      rw [hfs] at hrc
      have HV := Lib.hid hrc.1
      have hfl := hrc.2.1
      have HR0 := Lib.hid (hrc0.2.2.below HB5.out)
      have HFl := Lib.hid hfl
      have Hvl := Lib.hid HRw.out.1
      have HBd := Lib.hid (show [fs, vs].flatten.length * 24 ≤ 281474976710656 ∧ (fs ++ vs).length ≤ 4194304 from by
        have hvl := HRw.out.1
        constructor
        · simp; omega
        · simp; omega)
      have H1 := Lib.hid (rowsAt_one HR0.out)
      have H2 := Lib.hid (rowsAt_one HRw.out)
      have HVv := Lib.hid (own_vc HO.out)
      have hx1 : w5.cell? ⟨w.heap.size, 1, none⟩ = some (.slice A cs.length c) := (HX5.out.cell (p := ⟨w.heap.size, 1, none⟩) (by simp)).trans (by simp)
      have HCc := Lib.hid (show Calls Try.prog 94 #[.slice (some ⟨w5.heap.size, 0, none⟩) 2 2] (w5.alloc (.cells #[.slice A cs.length c, .slice A5 vs.length c5] 22)).drew (ConcatPost (w5.alloc (.cells #[.slice A cs.length c, .slice A5 vs.length c5] 22)).drew [fs, vs]) from concat_any (some ⟨w5.heap.size, 0, none⟩) 2 [fs, vs] _ (show RV _ _ _ from rv_two HV.out HVv.out HFl.out.symm rfl H1.out H2.out) (by simp) HBd.out.1)
      have HX1 := Lib.hid (fun (w6 : World) (hb : Below (w5.alloc (.cells #[.slice A cs.length c, .slice A5 vs.length c5] 22)).drew.heap.size (w5.alloc (.cells #[.slice A cs.length c, .slice A5 vs.length c5] 22)).drew w6) => show w6.cell? ⟨w.heap.size, 1, none⟩ = some (.slice A cs.length c) from
        (hb.cell (p := ⟨w.heap.size, 1, none⟩) (show w.heap.size < (w5.alloc _).heap.size by have := World.block_lt_of_cell? w5 _ hx1; simp at this ⊢; omega)).trans (cell_alloc_old hx1 _))
      have hx1a := fun o => cell_alloc_old hx1 o
      clear hrc hrc0 hfe hfs hC hS hr h8 hfl hadd
      go_cut [9] from 24 to 33 (fun p wx => Ready4 w cs.length (cs ++ r.getD []) p wx)
      case first =>
        go_region_with (first
          | (go_at_call 94; refine HCc.out.mono ?_; rintro e w6 ⟨v6, rfl, ho6, hb6⟩; have hx6 := HX1.out w6 hb6; rw [show [fs, vs].flatten = fs ++ vs by simp, List.length_append] at ho6; obtain ⟨A6, k6, rfl⟩ := own_slice ho6; have HRd := Lib.hid (ready4_mk (n := cs.length) HB5.out hb6 ho6 HR0.out HRw.out); clear ho6 hb6))
        all_goals (go_wp2; go_meet; exact HRd.out)
      case rest =>
        obtain ⟨b, va, gs, rfl, hBb, hblk, hown, hne, hrws, hbe⟩ := hcut
        obtain ⟨Aa, ka, rfl⟩ := own_slice hown
        obtain ⟨iI, hiI, zI1, zI2, zI3⟩ := info_parts infoNil
        have HiI := Lib.hid (And.intro hiI (And.intro zI1 (And.intro zI2 zI3)))
        clear hiI zI1 zI2 zI3 HCc HX1 hx1a hx1 HV HVv H1 H2 HR0 HRw HO HX5 HX4 HX3 HB5 HB4 HB3 HAd HCo HF HbX hp hq
        have hN : gs.length ≤ 4194304 := by rw [hrws.1]; have := HBd.out.2; have h2 := Hvl.out; have h3 := HFl.out; simp at this ⊢; omega
        have c1 := cell_of_row wc b 1 _ _ _ hblk
        have c1a := fun o => cell_alloc_old c1 o
        have hHRp := repeat_all wc.heap.size gs.length (wc.alloc (.cells #[.bool true] 4)) (by simp) hN
        have HRp := Lib.hid hHRp
        have HBlk := Lib.hid hblk
        have HMk := Lib.hid (fun w7 v7 w8 v8 h1 h2 h3 h4 => ready6_mk (w7 := w7) (v7 := v7) (w8 := w8) (v8 := v8) (o' := .cells #[.bool true] 4) (N := gs.length) (added := r.getD []) rfl hBb hblk hown hne hrws hbe h1 h2 rfl h3 h4)
        clear hHRp hblk hown hne hrws hbe c1
        go_upto_region 7 with (first
          | (go_at_call 95; refine HRp.out.mono ?_; rintro e w7 ⟨v7, rfl, ho7, hb7⟩; obtain ⟨A7, k7, rfl⟩ := own_slice ho7; have h71 := cell_of_row w7 b 1 _ _ _ (blk7 HBlk.out hb7); have h72 := cell_of_row w7 b 2 _ _ _ (blk7 HBlk.out hb7); have h7f := blk_frozen (blk7 HBlk.out hb7) 2; have HW7 := Lib.hid (And.intro ho7 hb7); clear ho7 hb7)
          | (at_make; refine wpList_make_full _ rfl _ _ 22 rfl w7.heap.size 25 iI (.slice none 0 0) 1 Try.underlying22 HiI.out.1 HiI.out.2.1 HiI.out.2.2.1 _ _ _ _ gs.length rfl rfl rfl rfl (by rw [HiI.out.2.2.2]; omega) (by unfold maxLen; omega) (by simp) ?_; intro w8 hown8 hgrow8; rw [made_nils] at hown8; have HW8 := Lib.hid (And.intro hown8 hgrow8); clear hown8 hgrow8; refine Hid.out ?_))
        have e78 : (w7.setCell ⟨b, 2, none⟩ (.slice A7 gs.length k7)).heap.size = w7.heap.size := by simp
        rw [e78] at HW8
        clear e78
        have hk8 := ((HW8.out.2.block b (by have h1 := (Array.getElem?_eq_some_iff.1 (blk7 HBlk.out HW7.out.2)).1; simp; exact h1) (by simp)).trans (row_setCell w7 b 2 _ _ _ (blk7 HBlk.out HW7.out.2)))
        have h83 := cell_of_row w8 b 3 _ _ _ hk8
        have h8f := blk_frozen hk8 3
        have HR6 := Lib.hid (HMk.out w7 _ w8 _ HW7.out.2 HW7.out.1 HW8.out.2 HW8.out.1)
        clear hk8 HW7 HW8 HMk HRp HBlk c1a
        refine Lib.hid ?_
        go_upto_region 7 with fail
        generalize (w8.setCell ⟨b, 3, none⟩ (.slice (some ⟨w7.heap.size, 0, none⟩) gs.length gs.length)) = wz at *
        clear h83 h8f h71 h72 h7f HBd Hvl HFl hN HiI
        cases r with
        | none =>
          obtain ⟨_, _, _, hbz⟩ := HR6.out
          have HBz := Lib.hid hbz
          clear HR6 hbz
          dsimp only [Option.isSome_none]
          go_wp2
          go_ret3
          rw [← HRes.out]
          exact TrimPost.none HBz.out 120
        | some added =>
          obtain ⟨τ, V, R, hbz⟩ := HR6.out
          have HBz := Lib.hid hbz
          change KRep _ _ _ _ _ (startK cs added) at R
          have hK : KOk (startK cs added) := startK_ok (HPos.out added rfl) (HFit.out added rfl)
          have HG := Lib.hid (good_any R hK)
          clear HR6 hbz R HPos HFit
          dsimp only [Option.isSome_some]
          have hres : trimG cs added = res := HRes.out
          unfold trimG at hres
          have HRs := Lib.hid hres
          clear HRes hres
          cases hgo : goodR (startK cs added) with
          | none =>
            rw [hgo] at HG
            have Hgo := Lib.hid hgo
            clear hgo
            unfold GoodPost at HG
            go_wp2_with (go_at_call 96; refine HG.out.mono ?_; rintro e w9 ⟨rfl, hb9⟩; have HB9 := Lib.hid (HBz.out.trans hb9); clear hb9)
            go_ret3
            have e := HRs.out
            rw [Hgo.out] at e
            rw [← e]
            exact TrimPost.none HB9.out 120
          | some K =>
            rw [hgo] at HG
            have hK2 := hK.good hgo
            obtain ⟨hK3, ha3, hg3, _⟩ := leastR_ok hK2.1
            have HL := Lib.hid (fun w' (h : KLed wz w.heap.size b K w') => show Calls Try.prog 97 #[.pointer (some ⟨b, 0, none⟩)] w' (LeastPost w' w.heap.size b (leastR K)) from by
              obtain ⟨τ', V', R', _⟩ := h
              exact least_any R' hK2.1)
            have hrs := HRs.out
            rw [hgo] at hrs
            have HRs2 := Lib.hid (show (coreL (leastR K) (leastR K).all.length, proofL (leastR K) (leastR K).all.length, (0 : Int)) = res from hrs)
            clear hgo hK hK2 ha3 hg3 hrs HRs
            unfold GoodPost at HG
            unfold LeastPost at HL
            generalize leastR K = K' at *
            go_upto_region 10 with (first
              | (go_at_call 96; refine HG.out.mono ?_; rintro e w9 ⟨rfl, hb9⟩; have HK9 := Lib.hid hb9; clear hb9)
              | (go_at_call 97; refine (HL.out w9 HK9.out).mono ?_; rintro e w10 ⟨rfl, hb10⟩; have HK10 := Lib.hid hb10; clear hb10))
            obtain ⟨τ, V, R, hb10⟩ := HK10.out
            have HB10 := Lib.hid ((HBz.out.trans (by obtain ⟨_, _, _, h⟩ := HK9.out; exact h)).trans hb10)
            have hgv := hK3.gv
            have hNle := hK3.ft.n
            obtain ⟨ga, ca, gi, ci, gl, cl, f⟩ := R.form (by omega)
            have HRf := Lib.hid R
            have HF2 := Lib.hid f
            have hc2 := f.c2
            have HRs3 := HRs2
            have hbl := R.lt
            have HFt := Lib.hid hK3.ft
            have HI0 := Lib.hid (Told.init w10 K')
            clear HK9 HK10 HL HG R f hK3 HRs2 hb10 HBz Hg
            generalize hNN : K'.all.length = N at *
            have HNN := Lib.hid hNN
            clear hNN
            go_wp2
            go_loopw [4, 5, 67] (fun v4 v5 i wr => ∃ k : Nat, k ≤ N ∧ i = .int .i64 k ∧ Told w10 K' k v4 v5 wr) (fun _ _ i _ => N - (intOf i).toNat)
            case atStart => exact ⟨0, Nat.zero_le _, rfl, HI0.out⟩
            case round =>
              obtain ⟨k, hk, rfl, ht⟩ := hrel
              obtain ⟨A4, c4, A5', c5', rfl, rfl⟩ := ht.forms
              have HT := Lib.hid ht
              have hbr := ht.be
              clear ht
              by_cases hlt : k < N
              · have hx0 := (hbr.cell (p := ⟨b, 0, none⟩) hbl).trans HF2.out.c0
                have hx1 := (hbr.cell (p := ⟨b, 1, none⟩) hbl).trans HF2.out.c1
                have hxi := (hbr.cell (p := ⟨gi, k, none⟩) HF2.out.li).trans (HF2.out.xi k (by rw [HNN.out]; exact hlt))
                obtain ⟨A1, c1, _, hxa, hfa⟩ := HF2.out.xa k (by rw [HNN.out]; exact hlt)
                replace hxa := (hbr.cell (p := ⟨ga, k, none⟩) HF2.out.la).trans hxa
                rw [HNN.out] at hx1
                have hcl := coreL_len K' k
                have HCl := Lib.hid (clone_any A1 c1 (K'.all.getD k []) wr ((ic_of_F hfa).below hbr) (HFt.out.r _ (by rw [List.getD_eq_getElem?_getD, List.getElem?_eq_getElem (by rw [HNN.out]; exact hlt)]; exact List.getElem_mem _)))
                clear hfa
                unfold ClonePost at HCl
                have HBr := Lib.hid hbr
                clear hbr
                obtain ⟨q, hq⟩ : ∃ q, K'.inn.getD k false = q := ⟨_, rfl⟩
                rw [hq] at hxi
                have Hq := Lib.hid hq
                clear hq
                cases q with
                | false =>
                  go_wp2
                  go_roundw
                  case rel => exact ⟨k + 1, by omega, by go_num, HT.out.skip Hq.out⟩
                  case measure => simp [intOf]; omega
                | true =>
                  by_cases hgk : k < K'.given
                  · have hgki : (k : Int) < K'.given := by omega
                    go_wp2_with (at_builtin; refine Kd.R_append (Kd.int .i64) (w0 := w10) w10.heap.size rfl (.tmp 94) (.tmp 96) 25 3 (.int .i64 0) 8 rfl Try.underlying25 info3K rfl (by decide) (by omega) (.slice A4 (coreL K' k).length c4) (coreL K' k) (k : Int) [.int .i64 k] (fun _ => True) (fun _ => False) rfl rfl rfl (fun _ hk => hk.elim) (fun _ _ => trivial) HT.out.co HBr.out HBr.out.size (by omega) ?_; intro v6 w6 ho hb hg hat; have HT6 := Lib.hid (HT.out.core Hq.out hgk ho hb hg hat); clear ho hb hg hat)
                    go_roundw
                    case rel => exact ⟨k + 1, by omega, by go_num, HT6.out⟩
                    case measure => simp [intOf]; omega
                  · have hgki : ¬ (k : Int) < K'.given := by omega
                    have hpl := proofL_len K' k
                    go_wp2_with (first
                      | (go_at_call 98; refine HCl.out.mono ?_; rintro e w6 ⟨hb6, v6, rfl, ho6⟩; have HP := Lib.hid (HT.out.cloned hb6 ho6); obtain ⟨A6, k6, rfl⟩ := own_slice ho6; clear hb6 ho6)
                      | (at_builtin; refine Kd.S_append k79 (w0 := w10) w10.heap.size rfl (.tmp 72) (.tmp 82) 69 79 (.agg #[.bool false, .slice none 0 0]) 32 rfl Try.underlying69 info79K rfl (by decide) (by omega) (.slice A5' (proofL K' k).length c5') (stepsL (proofL K' k)) ⟨false, K'.all.getD k []⟩ [.bool false, .slice A6 (K'.all.getD k []).length k6] (fun k_ => True ∧ some k_ ≠ (.slice A4 (coreL K' k).length c4 : Value).ownBlock) (fun k_ => some k_ = (.slice A6 (K'.all.getD k []).length k6 : Value).ownBlock) rfl rfl HP.out.m HP.out.okp HP.out.fresh HP.out.pr HP.out.be HP.out.be.size (by omega) ?_; intro v7 w7 ho hb hg hat; have HT6 := Lib.hid (HP.out.told Hq.out hgk ho hb hg); clear ho hb hg hat))
                    go_roundw
                    case rel => exact ⟨k + 1, by omega, by go_num, HT6.out⟩
                    case measure => simp [intOf]; omega
              · obtain rfl : k = N := by omega
                clear hbr hc2 hbl
                go_wp2
                go_ret3
                have hre := HRs3.out
                rw [← hre]
                exact ⟨_, _, rfl, Kd.R_lower HT.out.co HB10.out.size, Kd.S_mono (Kd.S_lower HT.out.pr HB10.out.size) (fun _ h => h.2), HB10.out.trans (HT.out.be.mono HB10.out.size)⟩
end Go.Proofs.Ytfljggodnnpeiaa.Trm
