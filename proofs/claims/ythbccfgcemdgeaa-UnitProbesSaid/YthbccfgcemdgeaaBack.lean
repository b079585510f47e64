/- Back: the walk. -/
import Derived.Test.YthbccfgcemdgeaaBackP
import Derived.Test.YthbccfgcemdgeaaWWords
namespace Go.Proofs.Ythbccfgcemdgeaa.Spr
open Go.RowKit Go.Maps Go.Proofs.Ythbccfgcemdgeaa.Lit
set_option linter.unusedVariables false

theorem Rep.cut_vt {w : World} {B b : Nat} {τ : Nat → Nat} {V : Vals} {S : St} (R : Rep w B b τ V S) {A : Option Addr} {c : Nat} (hv : V.vt = .slice A S.trail.length c) (n : Nat) (hn : n ≤ S.trail.length) :
    Rep (w.setCell ⟨b, 7, none⟩ (.slice A n c)) B b τ { V with vt := .slice A n c } (cutSt S n) := by
  refine R.set_vt (Stay.refl w τ _) ⟨?_, ?_⟩
  · have h := R.rt.own
    rw [hv, ints_len] at h
    have h2 := Go.Proofs.YthbccfgcemdgeaaW.PrintWords.own_take h hn
    rw [Nat.mul_one] at h2
    have e : (ints .i64 S.trail).take n = ints .i64 (S.trail.take n) := by unfold ints; rw [List.map_take]
    rw [e] at h2
    have e2 : (ints .i64 (S.trail.take n)).length = n := by rw [ints_len, List.length_take]; omega
    rw [e2]; exact h2
  · intro k hk
    refine R.rt.tag k ?_
    rw [hv]; cases A with
    | none => simp [Value.ownBlock] at hk
    | some a => simpa [Value.ownBlock] using hk

/-- What a round of Back finds at its head. -/
theorem Rep.tail {w : World} {B b : Nat} {τ : Nat → Nat} {V : Vals} {S : St} (R : Rep w B b τ V S) (h : Good S) {n : Nat} (hn : S.trail.length = n + 1) :
    ∃ d l : _, S.done = ((d : Nat) : Int) ∧ d ≤ n + 1 ∧ lastL S = l ∧ fm l = true ∧ S.ids.contains (lv l) = true ∧
      w.cell? ⟨b, 8, none⟩ = some (.int .i64 (d : Int)) ∧ (∀ i, w.frozen? ⟨b, i, none⟩ = false) ∧
      ∃ g c, V.vt = .slice (some ⟨g, 0, none⟩) S.trail.length c ∧ w.cell? ⟨b, 7, none⟩ = some (.slice (some ⟨g, 0, none⟩) (n + 1) c) ∧ w.cell? ⟨g, n, none⟩ = some (.int .i64 l) ∧ g ≠ b ∧ b ≠ g := by
  obtain ⟨d, hd⟩ : ∃ d : Nat, S.done = d := ⟨S.done.toNat, by have := h.dn; omega⟩
  obtain ⟨g, c, h1, hB, ht, _, _, hcell, hf⟩ := R.rt.form (by rw [ints_len]; omega)
  rw [ints_len] at h1
  obtain ⟨⟨d0, d1, d2, d3, d4, d5, d6, d7, d8, d9⟩, hfb⟩ := cells_at R.blk
  rw [h1, hn] at d7
  rw [hd] at d8
  have hl : S.trail.getD n 0 = lastL S := by unfold lastL; rw [hn]; rfl
  have hm : lastL S ∈ S.trail := by
    rw [← hl, List.getD_eq_getElem?_getD, List.getElem?_eq_getElem (by omega)]; exact List.getElem_mem _
  have n1 : g ≠ b := fun e => by have := R.tb; rw [← e, ht] at this; omega
  exact ⟨d, lastL S, hd, by have := h.dn; omega, rfl, h.tf _ hm, h.tk _ hm, d8, hfb, g, c, h1, d7, (by have := hcell n _ (ints_get (show n < S.trail.length by omega)); rw [hl] at this; exact this), n1, n1.symm⟩

set_option maxHeartbeats 4000000 in
set_option maxRecDepth 100000 in
theorem back_any {w : World} {B b : Nat} {τ : Nat → Nat} {V : Vals} {S : St} {cls : List (List Int)} {F : List Int} (R : Rep w B b τ V S) (h : Held cls F S) (hnd : ∀ c ∈ cls, c.Nodup) (hlen : ∀ c ∈ cls, c.length ≤ 4611686018427387903) (n0 : Nat) (hn0 : n0 ≤ S.trail.length) :
    Calls Try.prog 68 #[.pointer (some ⟨b, 0, none⟩), .int .i64 (n0 : Int)] w fun e w' => e = .returned (.tuple #[]) ∧ Led w B b V.kp (backSt S n0) w' := by
  have HL0 := Lib.hid (Led.mk (w := w) R (Below.refl _ _) (Kp.refl _))
  have HH := Lib.hid h
  have HN := Lib.hid hnd
  have HLn := Lib.hid hlen
  have hT0 : backSt S n0 = goodBad (backF (S.trail.length - n0) S) := rfl
  rw [hT0]
  clear hT0
  obtain ⟨K, hK⟩ : ∃ K, S.trail.length - n0 = K := ⟨_, rfl⟩
  have HTl := Lib.hid (show S.trail.length = n0 + K by omega)
  have HSm := Lib.hid (show (n0 : Int) ≤ 1048577 by have := h.inv.good.ok.trail_le; omega)
  rw [hK]
  generalize hT : backF K S = T at *
  have HT := Lib.hid hT
  generalize V.kp = L at *
  clear R h hT hn0 hnd hlen hK
  go_enter Try.func68, Try.ntmps68
  go_wp2
  go_loopg [4] K (fun kq _ wr => ∃ S1, Led w B b L S1 wr ∧ Hid (Held cls F S1) ∧ Hid (backF kq S1 = T) ∧ Hid (S1.trail.length = n0 + kq))
  case atStart => exact ⟨S, HL0.out, HH.out, HT.out, HTl.out⟩
  case round =>
    obtain ⟨S1, hled, hheld, hrun, hlen1⟩ := hrel
    obtain ⟨τ1, V1, R1, hb1, hp1⟩ := hled
    have HR1 := Lib.hid R1
    have HB1 := Lib.hid hb1
    have HP1 := Lib.hid hp1
    have hl1 := hlen1.out
    clear R1 hb1 hp1
    cases gk with
    | zero =>
      obtain ⟨At, ct, hvt⟩ := own_slice HR1.out.rt.own
      obtain ⟨⟨_, _, _, _, _, _, _, d7, d8, d9⟩, hfb⟩ := cells_at HR1.out.blk
      rw [hvt, ints_len, hl1, Nat.add_zero] at d7
      have hng : decide (n0 < n0) = false := by simp
      have HTT := Lib.hid (show S1 = T from hrun.out)
      have HLe := Lib.hid (Led.mk (w := w) (L := L) (HR1.out.set_bad (-1)) (HB1.out.setCell (p := ⟨b, 9, none⟩) HR1.out.hb _) HP1.out)
      clear hvt hl1
      go_wp2
      refine bodyPost_end (results_none rfl _ _ _) rfl ⟨rfl, ?_⟩
      rw [← HTT.out]
      exact HLe.out
    | succ k1 =>
    obtain ⟨n, hn⟩ : ∃ n : Nat, n0 + k1 = n := ⟨_, rfl⟩
    have hl2 : S1.trail.length = n + 1 := by omega
    have hG := hheld.out.inv.good
    obtain ⟨d, l, hd, hdn, hl, hfl, hkl, d8, hfb, gt, ct, hvt, d7, xt, n1, n2⟩ := HR1.out.tail hG hl2
    have hn2 : n ≤ 1048577 := by have := hG.ok.trail_le; omega
    have hgo : decide ((n0 : Int) < (n : Int) + 1) = true := decide_eq_true (by omega)
    have hgp : ((n0 : Int) < (n : Int) + 1) = True := eq_true (by omega)
    have HHn := Lib.hid (hheld.out.back HN.out HLn.out (by omega))
    have Hl2 := Lib.hid hl2
    have Hd := Lib.hid hd
    have Hl := Lib.hid hl
    have Hfl := Lib.hid hfl
    have Hkl := Lib.hid hkl
    have Hvt := Lib.hid hvt
    have Hn := Lib.hid hn
    have HG := Lib.hid hG
    obtain ⟨l1, l2, l3⟩ := fm_true hfl
    clear hl1 hl2 hd hl hfl hkl hvt hn hG
    -- THE WAYS
    have hd1 : (d : Int) ≤ 1048578 := by omega
    by_cases hlt : n < d
    · have hdt : decide (n < d) = true := decide_eq_true hlt
      have hq0 := pix_ge S1.ids l
      have hq1 := pix_le HG.out.ok l Hkl.out
      obtain ⟨gi, ci, AA, ca, d2, xi, hLi, hCi, n3, n4, hcaL⟩ := HR1.out.inat (pix S1.ids l).toNat (pix_lt HG.out.ok l Hkl.out)
      have HPl := Lib.hid (fun q => place_known (((HR1.out.set_done (n : Int))).stay (Stay.drewN _ _ _ q)) l Hkl.out (by have := HG.out.ok.ids_le; show S1.ids.length ≤ _; omega))
      have hil : ((pix S1.ids l).toNat : Int) < S1.inn.length := by have := pix_lt HG.out.ok l Hkl.out; omega
      have HLi := Lib.hid hLi
      have HCi := Lib.hid hCi
      clear hLi hCi
      generalize hA : S1.inn.getD (pix S1.ids l).toNat [] = CA at *
      obtain ⟨q, hq⟩ : ∃ q : Nat, pix S1.ids l = q := ⟨(pix S1.ids l).toNat, by omega⟩
      have Hq := Lib.hid hq
      have HA := Lib.hid hA
      clear hA
      rw [hq] at xi hil HPl
      rw [Int.toNat_natCast] at xi hil
      clear hq hq0 hq1
      have HLd := Lib.hid (fun q => (Led.mk (w := w) (L := V1.kp) ((HR1.out.set_done (n : Int)).stay (Stay.drewN _ _ _ q)) (below_drewN (HB1.out.setCell (p := ⟨b, 8, none⟩) HR1.out.hb _) q) (Kp.refl _)))
      have HOd : Ok (setDone S1 (n : Int)) := ⟨HG.out.ok.nd, HG.out.ok.rg, HG.out.ok.lnv, HG.out.ok.lw, HG.out.ok.li, HG.out.ok.bv, HG.out.ok.tr, HG.out.ok.lo, HG.out.ok.ln⟩
      go_wp2
      go_quiet ((go_at_call 92; exact Calls.quiet_of_same ((HPl.out _).mono fun _ _ h => ⟨h.1, h.2.symm⟩)))
      go_wp2
      go_loopw [51] (fun i wr2 => ∃ k : Nat, k ≤ CA.length ∧ i = .int .i64 k ∧ Led w B b V1.kp ((CA.take k).foldl downOn (setDone S1 (n : Int))) wr2) (fun i _ => CA.length - (intOf i).toNat)
      case atStart => exact ⟨0, Nat.zero_le _, rfl, HLd.out _⟩
      case round =>
        obtain ⟨k, hk, rfl, hled2⟩ := hrel
        obtain ⟨τ2, V2, R2, hb2, hp2⟩ := hled2
        have HR2 := Lib.hid R2
        have HB2 := Lib.hid hb2
        have HP2 := Lib.hid hp2
        clear R2 hb2 hp2
        have HF2 := Lib.hid (fold_fields downOn downOn_fields (CA.take k) (setDone S1 (n : Int)))
        have HO2 := Lib.hid (fold_keeps downOn Ok CA (fun s m _ hs => hs.on _ (by simp)) k _ HOd)
        by_cases hlt2 : k < CA.length
        · obtain ⟨m, hm, hmc⟩ := HG.out.in_ HCi.out k hlt2
          obtain ⟨ga, hAA, xk⟩ := HR2.out.inrow HP2.out HLi.out (by rw [HF2.out.2.2.1]; exact HCi.out) k hlt2
          obtain ⟨g, c, hvon, hBg, d4, x4, f4, n5, n6⟩ := HR2.out.onat HO2.out m (by rw [HF2.out.1]; exact hmc)
          have HS := Lib.hid (fold_take downOn CA k hlt2 (setDone S1 (n : Int)))
          subst hAA
          rw [hm] at xk HS
          have Hvon := Lib.hid hvon
          rw [HF2.out.1] at d4
          have hmc1 : (m : Int) < (setDone S1 (n : Int)).clauses.length := by show (m : Int) < S1.clauses.length; omega
          have hm0 : 0 ≤ (m : Int) := by omega
          have Hm := Lib.hid hm
          clear hm hvon
          generalize hSk : (CA.take k).foldl downOn (setDone S1 (n : Int)) = Sk at *
          have HSk := Lib.hid hSk
          clear hSk
          go_wp2
          go_roundw
          case rel => exact ⟨k + 1, by omega, by go_num, by rw [HS.out]; exact Led.mk (HR2.out.put_von Hvon.out m _) (HB2.out.setCell (p := ⟨g, m, none⟩) hBg _) HP2.out⟩
          case measure => simp [intOf]; omega
        · obtain rfl : k = CA.length := by omega
          rw [List.take_length] at HF2 HO2 HR2
          generalize hS2 : CA.foldl downOn (setDone S1 (n : Int)) = S2 at *
          have HS2 := Lib.hid hS2
          obtain ⟨f1, f2, f3, f4', f5', f6', f7', f8'⟩ := HF2.out
          replace f1 : S2.clauses = S1.clauses := f1
          replace f2 : S2.ids = S1.ids := f2
          replace f3 : S2.inn = S1.inn := f3
          replace f4' : S2.trail = S1.trail := f4'
          clear hS2 hk hlt2
          have hkl2 : S1.ids.contains (lv (-l)) = true := by rw [lv_neg Hfl.out]; exact Hkl.out
          have hq0 := pix_ge S1.ids (-l)
          have hq1 := pix_le HG.out.ok (-l) hkl2
          have HPn := Lib.hid (fun q => place_known (HR2.out.stay (Stay.drewN _ _ _ q)) (-l) (by rw [f2]; exact hkl2) (by have := HO2.out.ids_le; omega))
          obtain ⟨gj, cj, AB, cb, e2, xj, hLj, hCj, n5, n6, hcbL⟩ := HR2.out.inat (pix S1.ids (-l)).toNat (by rw [f3]; exact pix_lt HG.out.ok (-l) hkl2)
          rw [f3] at e2 xj hLj hCj hcbL
          rw [f2] at HPn
          have hjl : ((pix S1.ids (-l)).toNat : Int) < (S1.inn.length : Int) := by have := pix_lt HG.out.ok (-l) hkl2; omega
          generalize hB : S1.inn.getD (pix S1.ids (-l)).toNat [] = CB at *
          obtain ⟨r, hr⟩ : ∃ r : Nat, pix S1.ids (-l) = r := ⟨(pix S1.ids (-l)).toNat, by omega⟩
          have Hr := Lib.hid hr
          have HBB := Lib.hid hB
          have HLj := Lib.hid hLj
          have HCj := Lib.hid hCj
          have HF2 := Lib.hid (And.intro f1 (And.intro f2 (And.intro f3 (And.intro f4' (And.intro f5' (And.intro f6' (And.intro f7' f8')))))))
          clear hB hLj hCj f1 f2 f3 f4' f5' f6' f7' f8'
          rw [hr] at xj hjl HPn
          rw [Int.toNat_natCast] at xj hjl
          have hr0 : 0 ≤ (r : Int) := by omega
          clear hr hq0 hq1 hkl2
          have HLe := Lib.hid (fun q => Led.mk (w := w) (L := V2.kp) (HR2.out.stay (Stay.drewN _ _ _ q)) (below_drewN HB2.out q) (Kp.refl _))
          go_wp2
          go_quiet ((go_at_call 92; exact Calls.quiet_of_same ((HPn.out _).mono fun _ _ h => ⟨h.1, h.2.symm⟩)))
          go_wp2
          go_loopw [76] (fun i wr3 => ∃ k : Nat, k ≤ CB.length ∧ i = .int .i64 k ∧ Led w B b V2.kp ((CB.take k).foldl upOpn S2) wr3) (fun i _ => CB.length - (intOf i).toNat)
          case atStart => exact ⟨0, Nat.zero_le _, rfl, HLe.out _⟩
          case round =>
            obtain ⟨k, hk, rfl, hled3⟩ := hrel
            obtain ⟨τ3, V3, R3, hb3, hp3⟩ := hled3
            have HR3 := Lib.hid R3
            have HB3 := Lib.hid hb3
            have HP3 := Lib.hid hp3
            clear R3 hb3 hp3
            have HF3 := Lib.hid (fold_fields upOpn upOpn_fields (CB.take k) S2)
            have HO3 := Lib.hid (fold_keeps upOpn Ok CB (fun s m _ hs => hs.opn _ (by simp)) k _ HO2.out)
            by_cases hlt2 : k < CB.length
            · obtain ⟨m, hm, hmc⟩ := HG.out.in_ HCj.out k hlt2
              obtain ⟨ga, hAA, xk⟩ := HR3.out.inrow HP3.out HLj.out (by rw [HF3.out.2.2.1, HF2.out.2.2.1]; exact HCj.out) k hlt2
              obtain ⟨g, c, hvo, hBg, d3', x3, f3, n7, n8⟩ := HR3.out.opat HO3.out m (by rw [HF3.out.1, HF2.out.1]; exact hmc)
              have HS := Lib.hid (fold_take upOpn CB k hlt2 S2)
              subst hAA
              rw [hm] at xk HS
              have Hvo := Lib.hid hvo
              rw [HF3.out.1, HF2.out.1] at d3'
              have hmc1 : (m : Int) < (S1.clauses.length : Int) := by omega
              have hm0 : 0 ≤ (m : Int) := by omega
              have Hm := Lib.hid hm
              clear hm hvo
              generalize hSk : (CB.take k).foldl upOpn S2 = Sk at *
              have HSk := Lib.hid hSk
              clear hSk
              go_wp2
              go_roundw
              case rel => exact ⟨k + 1, by omega, by go_num, by rw [HS.out]; exact Led.mk (HR3.out.put_vo Hvo.out m _) (HB3.out.setCell (p := ⟨g, m, none⟩) hBg _) HP3.out⟩
              case measure => simp [intOf]; omega
            · obtain rfl : k = CB.length := by omega
              rw [List.take_length] at HF3 HO3 HR3
              generalize hS3 : CB.foldl upOpn S2 = S3 at *
              have hun : unSt S1 = S3 := by
                have eA : inAt S1 l = CA := by unfold inAt; rw [Hq.out, Int.toNat_natCast]; have := HA.out; rw [Hq.out, Int.toNat_natCast] at this; exact this
                have eB : inAt S1 (-l) = CB := by unfold inAt; rw [Hr.out, Int.toNat_natCast]; have := HBB.out; rw [Hr.out, Int.toNat_natCast] at this; exact this
                unfold unSt
                rw [Hl2.out, Hd.out, Hl.out]
                rw [if_pos (by omega), eA, eB, ← hS3, ← HS2.out]
                rfl
              have ht3 : S3.trail.length = n + 1 := by rw [HF3.out.2.2.2.1, HF2.out.2.2.2.1]; exact Hl2.out
              have hk3 : S3.ids.contains (lv l) = true := by rw [HF3.out.2.1, HF2.out.2.1]; exact Hkl.out
              have Hun := Lib.hid hun
              have Ht3 := Lib.hid ht3
              have Hk3 := Lib.hid hk3
              clear hS3 hk hlt2 hun ht3 hk3
              have HPx := Lib.hid (place_known HR3.out l Hk3.out (by have := HO3.out.ids_le; omega))
              obtain ⟨At2, ct2, hvt2⟩ := own_slice HR3.out.rt.own
              rw [ints_len] at hvt2
              have hcap := Go.Proofs.YthbccfgcemdgeaaW.PrintWords.own_cap (by have := HR3.out.rt.own; rw [hvt2, ints_len] at this; exact this)
              have hix : (S3.ids.idxOf (lv l)) < S3.ids.length := List.idxOf_lt_length_of_mem (by simpa using Hk3.out)
              have hle2 := HO3.out.ids_le
              have hq := pix_half S3.ids l
              have hq0 := pix_ge S3.ids l
              have hq1 := pix_le HO3.out l Hk3.out
              obtain ⟨p, hp⟩ : ∃ p, S3.ids.idxOf (lv l) = p := ⟨_, rfl⟩
              rw [hp] at hix hq
              obtain ⟨g, c, gw, cw, hvv, hvw, hBg, hBgw, d5, d6, e7, hfb2, x5, f5, x6, f6, m1, m2, m3, m4, m5, m6⟩ := HR3.out.slots HO3.out p hix
              rw [hvt2, Ht3.out] at e7
              rw [Ht3.out] at hcap
              have HRz := Lib.hid ((HR3.out.put_vv hvv p 0).cut_vt hvt2 n (by show n ≤ S3.trail.length; rw [Ht3.out]; omega))
              have HBz := Lib.hid ((HB3.out.setCell (p := ⟨g, p, none⟩) hBg (.int .i8 0)).setCell (p := ⟨b, 7, none⟩) HR3.out.hb (.slice At2 n ct2))
              have Hp := Lib.hid hp
              have hp0 : 0 ≤ (p : Int) := by omega
              have hp1 : (p : Int) < (S3.ids.length : Int) := by omega
              obtain ⟨q, hqe⟩ : ∃ q, pix S3.ids l = q := ⟨_, rfl⟩
              rw [hqe] at hq hq0 hq1 HPx
              have HE := Lib.hid (show backStep S1 = cutSt { S3 with value := S3.value.set p 0 } n from by unfold backStep; rw [Hun.out, Hl2.out, Hl.out]; unfold clearSt; rw [hp]; rfl)
              clear hvv hvw hvt2 hp hqe
              go_wp2_with (go_at_call 92; refine HPx.out.mono ?_; rintro e w' ⟨rfl, rfl⟩)
              go_roundg k1
              case measure => omega
              case rel =>
                refine ⟨backStep S1, ?_, HHn.out, ?_, ?_⟩
                · rw [HE.out]
                  exact Led.mk HRz.out HBz.out (HP1.out.trans (HP2.out.trans HP3.out))
                · exact hrun.out
                · rw [HE.out]
                  show (S3.trail.take n).length = n0 + k1
                  rw [List.length_take, Ht3.out]
                  have := Hn.out
                  omega

    · have hdt : decide (n < d) = false := decide_eq_false hlt
      have hun : unSt S1 = S1 := by unfold unSt; rw [Hl2.out, Hd.out, if_neg (by omega)]
      have HPx := Lib.hid (place_known HR1.out l Hkl.out (by have := HG.out.ok.ids_le; omega))
      have hvt2 := Hvt.out
      have hcap := Go.Proofs.YthbccfgcemdgeaaW.PrintWords.own_cap (by have := HR1.out.rt.own; rw [hvt2, ints_len] at this; exact this)
      have hix : (S1.ids.idxOf (lv l)) < S1.ids.length := List.idxOf_lt_length_of_mem (by simpa using Hkl.out)
      have hle2 := HG.out.ok.ids_le
      have hq := pix_half S1.ids l
      have hq0 := pix_ge S1.ids l
      have hq1 := pix_le HG.out.ok l Hkl.out
      obtain ⟨p, hp⟩ : ∃ p, S1.ids.idxOf (lv l) = p := ⟨_, rfl⟩
      rw [hp] at hix hq
      obtain ⟨g, c, gw, cw, hvv, hvw, hBg, hBgw, d5, d6, e7, hfb2, x5, f5, x6, f6, m1, m2, m3, m4, m5, m6⟩ := HR1.out.slots HG.out.ok p hix
      rw [hvt2, Hl2.out] at e7
      rw [Hl2.out] at hcap
      have HRz := Lib.hid ((HR1.out.put_vv hvv p 0).cut_vt hvt2 n (by show n ≤ S1.trail.length; rw [Hl2.out]; omega))
      have HBz := Lib.hid ((HB1.out.setCell (p := ⟨g, p, none⟩) hBg (.int .i8 0)).setCell (p := ⟨b, 7, none⟩) HR1.out.hb (.slice (some ⟨gt, 0, none⟩) n ct))
      have Hp := Lib.hid hp
      have hp0 : 0 ≤ (p : Int) := by omega
      have hp1 : (p : Int) < (S1.ids.length : Int) := by omega
      obtain ⟨q, hqe⟩ : ∃ q, pix S1.ids l = q := ⟨_, rfl⟩
      rw [hqe] at hq hq0 hq1 HPx
      have HE := Lib.hid (show backStep S1 = cutSt { S1 with value := S1.value.set p 0 } n from by unfold backStep; rw [hun, Hl2.out, Hl.out]; unfold clearSt; rw [hp]; rfl)
      clear hvv hvw hvt2 hp hqe
      go_wp2_with (go_at_call 92; refine HPx.out.mono ?_; rintro e w' ⟨rfl, rfl⟩)
      go_roundg k1
      case measure => omega
      case rel =>
        refine ⟨backStep S1, ?_, HHn.out, ?_, ?_⟩
        · rw [HE.out]
          exact Led.mk HRz.out HBz.out HP1.out
        · exact hrun.out
        · rw [HE.out]
          show (S1.trail.take n).length = n0 + k1
          rw [List.length_take, Hl2.out]
          have := Hn.out
          omega

end Go.Proofs.Ythbccfgcemdgeaa.Spr
