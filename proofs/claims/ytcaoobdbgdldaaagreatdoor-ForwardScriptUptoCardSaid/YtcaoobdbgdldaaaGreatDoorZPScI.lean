/- Part of the proof of ForwardScript: what the law uses of the text ScI. -/
import Derived.Test.YtcaoobdbgdldaaaGreatDoorZPScH
namespace Go.Proofs.YtcaoobdbgdldaaaGreatDoor.Sc
open Go.RowKit Go.Proofs.YtcaoobdbgdldaaaGreatDoor.Lit Go.Proofs.YtcaoobdbgdldaaaGreatDoor.Spr Go.Proofs.YtcaoobdbgdldaaaGreatDoor.P Go.Proofs.YtcaoobdbgdldaaaGreatDoor.Rf Go.Proofs.YtcaoobdbgdldaaaGreatDoor.Rfw Go.Proofs.YtcaoobdbgdldaaaGreatDoor.Cl Go.Proofs.YtcaoobdbgdldaaaGreatDoorW.PrintWords Go.Proofs.YtcaoobdbgdldaaaGreatDoorW.PrintLast
open Go.Proofs.YtcaoobdbgdldaaaGreatDoor.Fwd (Fw FwR FwV KeepI KeepT KeepO rowOf rowOf_blk MapR add_any drop_any units_any addW dropW AddPost DropPost UnitsPost RowR)
set_option linter.unusedVariables false
set_option linter.unusedSimpArgs false
set_option maxHeartbeats 16000000 in
set_option maxRecDepth 100000 in
theorem whole_any (B : Nat) (own : Nat → Nat) (t b m br N : Nat) (F : Fw) (A : List (List Int)) (o : Bool) (w : World) (h : Duo B own t b m br N F A o w) (hN : N ≤ 4194304) (hT : Lib.TabBelow Tryz.prog B w "internal/strconv.uint64pow10" .u64 Lib.pow10Tab) :
    Calls Tryz.prog 22 #[.pointer (some ⟨b, 0, none⟩), .pointer (some ⟨br, 0, none⟩)] w fun e w' => e = .returned (.bool true) ∧ Below w.heap.size w w' := by
  have hBw := Fwd.FwR.size h.fw
  have HU := Lib.hid (show Calls Tryz.prog 49 #[.pointer (some ⟨b, 0, none⟩)] w (fun e w' => ∃ u, e = .returned (.tuple #[u, .bool (closeR 1048576 A []).2.1]) ∧ Kd.R kI 3 w' w.heap.size (fun _ => True) u (closeR 1048576 A []).1 ∧ Below w.heap.size w w') from by
    have h1 := units_any w B b m N F w h.fw hN
    have h2 : closeR F.vars F.all [] = closeR 1048576 A [] := units_same (F := un F) h.sr.rel
    unfold UnitsPost at h1
    rw [h2] at h1
    refine h1.mono fun e w' hh => ?_
    obtain ⟨u, e1, e2, e3⟩ := hh
    exact ⟨u, e1, r_of_own (by rw [show (ints .i64 (closeR 1048576 A []).1).length = (closeR 1048576 A []).1.length by simp [ints]]; exact e2), e3⟩)
  have HV := Lib.hid (fun W (hb : Below w.heap.size w W) => runits_any _ w B br A o W (h.rf.step hb) h.ok)
  have Hml := Lib.hid (show (closeR 1048576 A []).1.length < 9223372036854775807 from by
    unfold closeR
    split
    · split
      · exact tidy_small _
      · simp
    · simp)
  have HP := Lib.hid (fun W (hb : Below w.heap.size w W) => clauses_any w B b m N F W (h.fw.step hb) hN hT (outs_le h.sr.nd (Fwd.FwR.ok h.fw).ml hN))
  have HR := Lib.hid (fun W (hb : Below w.heap.size w W) => rclauses_any _ w B br A o W (h.rf.step hb) h.ok)
  have HSm := Lib.hid (fun (ds : List (List Int)) (hp : ds.Perm F.all) (ho : ∀ i j, i < j → j < ds.length → cmpL ds[i]! ds[j]! ≤ 0) => show outL F.ms ds ds.length = rOut A A.length from clauses_same h.sr.rel.p h.sr.nd hp ho)
  have Hm2 := Lib.hid (show (rOut A A.length).length < 9223372036854775807 ∧ ∀ d ∈ rOut A A.length, d.length < 9223372036854775807 from ⟨by rw [rOut_len]; have := h.ok.l; omega, fun d hd => by
    obtain ⟨a, ha, e⟩ := rOut_mem A A.length (Nat.le_refl _) d hd
    have h1 := tidy_len a
    have h2 := h.ok.c8 a ha
    rw [e]; omega⟩)
  have HD := Lib.hid (fun W (hb : Below w.heap.size w W) => show Calls Tryz.prog 37 #[.pointer (some ⟨b, 0, none⟩)] W (fun e w' => e = .returned (.bool o) ∧ w' = W) from by
    have := fdone_any w B b m N F W (h.fw.step hb)
    rw [h.sr.dn] at this
    exact this)
  have HE := Lib.hid (fun W (hb : Below w.heap.size w W) => rdone_any _ w B br A o W (h.rf.step hb))
  clear h hT
  generalize (closeR 1048576 A []).1 = T at *
  generalize (closeR 1048576 A []).2.1 = cl at *
  generalize rOut A A.length = S at *
  go_enter Tryz.func22, Tryz.ntmps22
  go_wp2_with (first
    | (go_at_call 49; refine HU.out.mono ?_; rintro e w2 ⟨v2, rfl, hR2, hb2⟩; have HB2 := Lib.hid hb2; obtain ⟨A2, c2, e2⟩ := Kd.R_slice hR2; subst e2; have HR2 := Lib.hid hR2; clear hb2 hR2)
    | (go_at_call 50; refine (HV.out w2 HB2.out).mono ?_; rintro e w3 ⟨v3, rfl, hR3, hb3⟩; have HB3 := Lib.hid (HB2.out.trans (hb3.mono HB2.out.size)); obtain ⟨A3, c3, e3⟩ := Kd.R_slice hR3; subst e3; have HR3 := Lib.hid hR3; have HR23 := Lib.hid (Kd.R_below HR2.out hb3); clear hb3 hR3)
    | (go_at_call 36; refine (HP.out w3 HB3.out).mono ?_; rintro e w6 ⟨hb6, v6, ds, rfl, hp6, ho6, hN6⟩; have HB6 := Lib.hid (HB3.out.trans (hb6.mono HB3.out.size)); have Hb6 := Lib.hid hb6; rw [HSm.out ds hp6 ho6] at hN6; obtain ⟨A6, c6, e6⟩ := Kd.N_slice hN6; subst e6; have HN6 := Lib.hid hN6; clear hb6 hp6 ho6 hN6)
    | (go_at_call 48; refine (HR.out w6 HB6.out).mono ?_; rintro e w8 ⟨hb8, v8, rfl, hN8⟩; have HB8 := Lib.hid (HB6.out.trans (hb8.mono HB6.out.size)); have Hb8 := Lib.hid hb8; obtain ⟨A8, c8, e8⟩ := Kd.N_slice hN8; subst e8; have HN8 := Lib.hid hN8; clear hb8 hN8)
    | (go_at_call 47; refine (samecl_any A6 c6 A8 c8 S w8 (Kd.N_reads' (Kd.N_below HN6.out Hb8.out)).2.2 (Kd.N_reads' HN6.out).2.1 (Kd.N_reads' HN8.out).2.2 (Kd.N_reads' HN8.out).2.1 Hm2.out.1 Hm2.out.2).mono ?_; rintro e w9 ⟨rfl, hb9⟩; have HB9 := Lib.hid (HB8.out.trans (hb9.mono HB8.out.size)); have Hb39 := Lib.hid (Hb6.out.trans ((Hb8.out.mono Hb6.out.size).trans (hb9.mono (Nat.le_trans Hb6.out.size Hb8.out.size)))); clear hb9)
    | (go_at_call 51; refine (sameints_any A2 c2 A3 c3 T w9 (Kd.R_reads' (Kd.R_below HR23.out Hb39.out)).2.2 (Kd.R_reads' HR2.out).2.1 (Kd.R_reads' (Kd.R_below HR3.out Hb39.out)).2.2 (Kd.R_reads' HR3.out).2.1 Hml.out).mono ?_; rintro e w10 ⟨rfl, hb10⟩; have HB10 := Lib.hid (HB9.out.trans (hb10.mono HB9.out.size)); clear hb10)
    | (go_at_call 37; refine (HD.out w10 HB10.out).mono ?_; rintro e w11 ⟨rfl, rfl⟩)
    | (go_at_call 52; refine (HE.out w11 HB10.out).mono ?_; rintro e w12 ⟨rfl, rfl⟩))
  go_ret
  exact ⟨by simp, HB10.out⟩
end Go.Proofs.YtcaoobdbgdldaaaGreatDoor.Sc
