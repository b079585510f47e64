/- Part of the proof of ForwardScript: what the law uses of the text ScH. -/
import Derived.Test.YtcaoobdbgdldaaaGreatDoorZPScG
namespace Go.Proofs.YtcaoobdbgdldaaaGreatDoor.Sc
open Go.RowKit Go.Proofs.YtcaoobdbgdldaaaGreatDoor.Lit Go.Proofs.YtcaoobdbgdldaaaGreatDoor.Spr Go.Proofs.YtcaoobdbgdldaaaGreatDoor.P Go.Proofs.YtcaoobdbgdldaaaGreatDoor.Rf Go.Proofs.YtcaoobdbgdldaaaGreatDoor.Rfw Go.Proofs.YtcaoobdbgdldaaaGreatDoor.Cl Go.Proofs.YtcaoobdbgdldaaaGreatDoorW.PrintWords Go.Proofs.YtcaoobdbgdldaaaGreatDoorW.PrintLast
open Go.Proofs.YtcaoobdbgdldaaaGreatDoor.Fwd (Fw FwR FwV KeepI KeepT KeepO rowOf rowOf_blk MapR add_any drop_any units_any addW dropW AddPost DropPost UnitsPost RowR)
set_option linter.unusedVariables false
set_option linter.unusedSimpArgs false

theorem Duo.mono {B : Nat} {own : Nat → Nat} {t b m br N M : Nat} {F : Fw} {A : List (List Int)} {o : Bool} {w : World} (h : Duo B own t b m br N F A o w) (hm : N ≤ M) : Duo B own t b m br M F A o w :=
  ⟨h.fw.mono hm, h.rf, h.lb, h.lm, h.lv, h.lr, h.lq, h.sr, h.ok, Nat.le_trans h.la hm⟩
theorem Eff.lab {t B s : Nat} {own : Nat → Nat} {w w1 : World} (hb : Below w.heap.size w w1) (hB : B ≤ w.heap.size) : Eff t B own (lab own w.heap.size s) w w1 :=
  ⟨hb.size, fun g hg => lab_old _ _ _ hg, fun g hg _ _ => hb.block g hg, .of_below hb, hb.mono hB⟩
def StepPost (B : Nat) (own : Nat → Nat) (t b m br N : Nat) (w : World) (e : Ending) (w' : World) : Prop :=
  e = .returned (.bool true) ∧ ∃ own' F' A' o', Duo B own' t b m br (N + 1) F' A' o' w' ∧ Eff t B own own' w w'
def OpBox (bx : Nat) (on z : Int) (A1 : Option Addr) (n c1 : Nat) (X : World) : Prop := X.heap[bx]? = some (Obj.cells #[.int .i64 on, .int .i64 z, .slice A1 n c1] 58 (0, 0))
theorem OpBox.cell {bx : Nat} {on z : Int} {A1 : Option Addr} {n c1 : Nat} {X : World} (h : OpBox bx on z A1 n c1 X) : X.cell? ⟨bx, 1, none⟩ = some (.int .i64 z) ∧ X.cell? ⟨bx, 2, none⟩ = some (.slice A1 n c1) := by
  have h2 : X.heap[bx]? = some (Obj.cells #[.int .i64 on, .int .i64 z, .slice A1 n c1] 58 (0, 0)) := h
  constructor <;> (unfold World.cell?; rw [h2]; rfl)
theorem tidy_small (a : List Int) : (tidyL a).length < 9223372036854775807 := by
  have h := tidy_len a
  omega
theorem outs_le {F : Fw} {N : Nat} (hn : ND F) (hml : F.ms.length ≤ N) (hN : N ≤ 4194304) : ∀ ds : List (List Int), ds.Perm F.all → ∀ k, (outL F.ms ds k).length ≤ 4194304 := fun ds hp j => by
  have h1 := outL_le F.ms ds j
  have h2 := (hn.out hp).length_eq
  omega

set_option maxHeartbeats 16000000 in
set_option maxRecDepth 100000 in
theorem step_any (B : Nat) (own : Nat → Nat) (t b m br N : Nat) (F : Fw) (A : List (List Int)) (o : Bool) (on z : Int) (A1 : Option Addr) (c1 : Nat) (c : List Int) (w : World) (h : Duo B own t b m br N F A o w) (hBw : B ≤ w.heap.size) (hC : ∀ W, Below B w W → Kd.C kI W A1 c.length c) (hc1 : c.length ≤ c1) (hl : c.length ≤ 2097152) (hN : N + 1 ≤ 4194304) (hT : Lib.TabBelow Tryz.prog B w "internal/strconv.uint64pow10" .u64 Lib.pow10Tab) :
    Calls Tryz.prog 21 #[.pointer (some ⟨b, 0, none⟩), .pointer (some ⟨br, 0, none⟩), .agg #[.int .i64 on, .int .i64 z, .slice A1 c.length c1]] w (StepPost B own t b m br N w) := by
  obtain ⟨X, hX⟩ : ∃ X, w.alloc (Obj.cells #[.int .i64 on, .int .i64 z, .slice A1 c.length c1] 58) = X := ⟨_, rfl⟩
  have hbX : Below w.heap.size w X := by rw [← hX]; exact (Below.refl _ _).alloc (Nat.le_refl _) _
  have hnX : OpBox w.heap.size on z A1 c.length c1 X := by rw [← hX]; exact World.alloc_heap_new _ _
  have hlX : w.heap.size < X.heap.size := (Array.getElem?_eq_some_iff.1 hnX).1
  have HbX := Lib.hid hbX
  have HoX := Lib.hid (fun W (hb : Below X.heap.size X W) => show OpBox w.heap.size on z A1 c.length c1 W from (hb.block _ hlX).trans hnX)
  obtain ⟨x1, x2⟩ := hnX.cell
  have HD := Lib.hid (fun W (hb : Below X.heap.size X W) => h.below (hbX.trans (hb.mono hbX.size)) (lab own w.heap.size (t + 2)) (fun g hg => lab_old _ _ _ hg))
  have HE := Lib.hid (fun W (hb : Below X.heap.size X W) => Eff.lab (t := t) (s := t + 2) (own := own) (hbX.trans (hb.mono hbX.size)) hBw)
  have hob : lab own w.heap.size (t + 2) w.heap.size = t + 2 := lab_new _ _ _ (Nat.le_refl _)
  obtain ⟨r, hr, hr0, hr5⟩ := pick_ok z 5 (by decide) (by decide)
  have HPk := Lib.hid (depotkit_Pick.calls z 5 r X hr)
  have HC := Lib.hid hC
  have HT := Lib.hid hT
  have Hsr := Lib.hid h.sr
  have Hok := Lib.hid h.ok
  have hla := h.la
  clear hC hT hbX hnX h hr
  unfold StepPost
  generalize hown : lab own w.heap.size (t + 2) = own0 at *
  clear hown
  have hr' : r = 0 ∨ r = 1 ∨ r = 2 ∨ r = 3 ∨ r = 4 := by omega
  clear hr0 hr5
  rcases hr' with rfl | rfl | rfl | rfl | rfl
  · obtain ⟨s1, s2, s3⟩ := add_same Hsr.out c
    have hk2 := ok_add Hok.out hla hN o c hl
    have HP := Lib.hid (fun W (hb : Below X.heap.size X W) => show Calls Tryz.prog 34 #[.pointer (some ⟨b, 0, none⟩), .slice A1 c.length c1] W (fun e w' => e = .returned (.tuple #[.int .i64 (addW F c).1, .int .i64 (addW F c).2.1]) ∧ FwR W B b m (N + 1) (addW F c).2.2 w') from add_any W B b m N F A1 c1 c W (HD.out W hb).fw (ic_of_C (HC.out W (HE.out W hb).below)) (by omega) (HT.out.on (HE.out W hb).below) (by omega))
    have HR := Lib.hid (fun W (hb : Below X.heap.size X W) W2 (h6 : FwR W B b m (N + 1) (addW F c).2.2 W2) => radd_any (mid own0 W W2 t) W2 B br A o A1 c1 c W2 (Duo.mid (HD.out W hb) h6) (HC.out W2 ((HE.out W hb).below.trans (Fwd.FwR.base h6))) hc1 Hok.out hl (fun k hk => .inr hk))
    have HSr := Lib.hid s3
    have HKo := Lib.hid hk2
    rw [← s1, ← s2] at HR
    clear s1 s2 s3 hk2 Hsr Hok
    generalize (rAdd A o c).2.2.1 = A' at *
    generalize (rAdd A o c).2.2.2 = o' at *
    generalize (addW F c).1 = n1 at *
    generalize (addW F c).2.1 = n2 at *
    generalize (addW F c).2.2 = G at *
    generalize c.length = n at *
    subst hX
    go_enter Tryz.func21, Tryz.ntmps21
    go_wp2_with (first
      | (go_at_call 20; refine HPk.out.mono ?_; rintro e w4 ⟨rfl, q, rfl⟩; obtain ⟨y1, y2⟩ := (HoX.out _ (below_drewN (Below.refl _ _) q)).cell)
      | (go_at_call 34; refine (HP.out _ (below_drewN (Below.refl _ _) q)).mono ?_; rintro e w6 ⟨rfl, hr6⟩; have H6 := Lib.hid hr6; obtain ⟨_, _, e3⟩ := eff_fw (HD.out _ (below_drewN (Below.refl _ _) q)).fw hr6 (HD.out _ (below_drewN (Below.refl _ _) q)).lb (HD.out _ (below_drewN (Below.refl _ _) q)).lm (HD.out _ (below_drewN (Below.refl _ _) q)).lv; have hbx6 := (e3 w.heap.size (Nat.lt_of_lt_of_le hlX (below_drewN (Below.refl 0 _) q).size) (by rw [hob]; omega)).trans (HoX.out _ (below_drewN (Below.refl _ _) q)); obtain ⟨z1, z2⟩ := (show OpBox w.heap.size on z A1 n c1 w6 from hbx6).cell; clear hr6 e3 hbx6)
      | (go_at_call 45; refine (HR.out _ (below_drewN (Below.refl _ _) q) w6 H6.out).mono ?_; rintro e w8 ⟨rfl, hr8⟩; have H8 := Lib.hid hr8; clear hr8))
    go_ret
    obtain ⟨own', d1, d2⟩ := Duo.fin (HD.out _ (below_drewN (Below.refl _ _) q)) H6.out H8.out HSr.out HKo.out.2 HKo.out.1
    exact ⟨by simp, own', _, _, _, d1, (HE.out _ (below_drewN (Below.refl _ _) q)).trans d2⟩
  · obtain ⟨s1, s2, s3⟩ := drop_same Hsr.out c
    have hk2 := ok_drop Hok.out hla o c
    have HP := Lib.hid (fun W (hb : Below X.heap.size X W) => show Calls Tryz.prog 35 #[.pointer (some ⟨b, 0, none⟩), .slice A1 c.length c1] W (fun e w' => e = .returned (.tuple #[.int .i64 (dropW F c).1, .int .i64 (dropW F c).2.1]) ∧ FwR W B b m (N + 1) (dropW F c).2.2 w') from drop_any W B b m N F A1 c1 c W (HD.out W hb).fw (ic_of_C (HC.out W (HE.out W hb).below)) (by omega) (HT.out.on (HE.out W hb).below) (by omega) (fun t ht => (Hsr.out.nd.2 t).2 ht))
    have HR := Lib.hid (fun W (hb : Below X.heap.size X W) W2 (h6 : FwR W B b m (N + 1) (dropW F c).2.2 W2) => rdrop_any (mid own0 W W2 t) W2 B br A o A1 c1 c W2 (Duo.mid (HD.out W hb) h6) (HC.out W2 ((HE.out W hb).below.trans (Fwd.FwR.base h6))) hc1 Hok.out hl (fun k hk => .inr hk))
    have HSr := Lib.hid s3
    have HKo := Lib.hid hk2
    rw [← s1, ← s2] at HR
    clear s1 s2 s3 hk2 Hsr Hok
    generalize (rDrop A o c).2.2 = A' at *
    generalize (dropW F c).1 = n1 at *
    generalize (dropW F c).2.1 = n2 at *
    generalize (dropW F c).2.2 = G at *
    generalize c.length = n at *
    subst hX
    go_enter Tryz.func21, Tryz.ntmps21
    go_wp2_with (first
      | (go_at_call 20; refine HPk.out.mono ?_; rintro e w4 ⟨rfl, q, rfl⟩; obtain ⟨y1, y2⟩ := (HoX.out _ (below_drewN (Below.refl _ _) q)).cell)
      | (go_at_call 35; refine (HP.out _ (below_drewN (Below.refl _ _) q)).mono ?_; rintro e w6 ⟨rfl, hr6⟩; have H6 := Lib.hid hr6; obtain ⟨_, _, e3⟩ := eff_fw (HD.out _ (below_drewN (Below.refl _ _) q)).fw hr6 (HD.out _ (below_drewN (Below.refl _ _) q)).lb (HD.out _ (below_drewN (Below.refl _ _) q)).lm (HD.out _ (below_drewN (Below.refl _ _) q)).lv; have hbx6 := (e3 w.heap.size (Nat.lt_of_lt_of_le hlX (below_drewN (Below.refl 0 _) q).size) (by rw [hob]; omega)).trans (HoX.out _ (below_drewN (Below.refl _ _) q)); obtain ⟨z1, z2⟩ := (show OpBox w.heap.size on z A1 n c1 w6 from hbx6).cell; clear hr6 e3 hbx6)
      | (go_at_call 44; refine (HR.out _ (below_drewN (Below.refl _ _) q) w6 H6.out).mono ?_; rintro e w8 ⟨rfl, hr8⟩; have H8 := Lib.hid hr8; clear hr8))
    go_ret
    obtain ⟨own', d1, d2⟩ := Duo.fin (HD.out _ (below_drewN (Below.refl _ _) q)) H6.out H8.out HSr.out HKo.out.2 HKo.out.1
    exact ⟨by simp, own', _, _, _, d1, (HE.out _ (below_drewN (Below.refl _ _) q)).trans d2⟩
  · have HP := Lib.hid (fun W (hb : Below X.heap.size X W) => clauses_any W B b m N F W (HD.out W hb).fw (by omega) (HT.out.on (HE.out W hb).below) (outs_le Hsr.out.nd (Fwd.FwR.ok (HD.out W hb).fw).ml (by omega)))
    have HR := Lib.hid (fun W (hb : Below X.heap.size X W) W2 (hb2 : Below W.heap.size W W2) => rclauses_any _ W B br A o W2 ((HD.out W hb).rf.step hb2) Hok.out)
    have HSm := Lib.hid (fun (ds : List (List Int)) (hp : ds.Perm F.all) (ho : ∀ i j, i < j → j < ds.length → cmpL ds[i]! ds[j]! ≤ 0) => show outL F.ms ds ds.length = rOut A A.length from clauses_same Hsr.out.rel.p Hsr.out.nd hp ho)
    have Hml := Lib.hid (show (rOut A A.length).length < 9223372036854775807 ∧ ∀ d ∈ rOut A A.length, d.length < 9223372036854775807 from ⟨by rw [rOut_len]; have := Hok.out.l; omega, fun d hd => by
      obtain ⟨a, ha, e⟩ := rOut_mem A A.length (Nat.le_refl _) d hd
      have h1 := tidy_len a
      have h2 := Hok.out.c8 a ha
      rw [e]; omega⟩)
    subst hX
    generalize rOut A A.length = T at *
    go_enter Tryz.func21, Tryz.ntmps21
    go_wp2_with (first
      | (go_at_call 20; refine HPk.out.mono ?_; rintro e w4 ⟨rfl, q, rfl⟩; obtain ⟨y1, y2⟩ := (HoX.out _ (below_drewN (Below.refl _ _) q)).cell)
      | (go_at_call 36; refine (HP.out _ (below_drewN (Below.refl _ _) q)).mono ?_; rintro e w6 ⟨hb6, v6, ds, rfl, hp6, ho6, hN6⟩; have HB6 := Lib.hid hb6; rw [HSm.out ds hp6 ho6] at hN6; obtain ⟨A6, c6, e6⟩ := Kd.N_slice hN6; subst e6; have HN6 := Lib.hid hN6; clear hb6 hp6 ho6 hN6)
      | (go_at_call 48; refine (HR.out _ (below_drewN (Below.refl _ _) q) w6 HB6.out).mono ?_; rintro e w8 ⟨hb8, v8, rfl, hN8⟩; have HB8 := Lib.hid hb8; obtain ⟨A8, c8, e8⟩ := Kd.N_slice hN8; subst e8; have HN8 := Lib.hid hN8; clear hb8 hN8)
      | (go_at_call 47; refine (samecl_any A6 c6 A8 c8 T w8 (Kd.N_reads' (Kd.N_below HN6.out HB8.out)).2.2 (Kd.N_reads' HN6.out).2.1 (Kd.N_reads' HN8.out).2.2 (Kd.N_reads' HN8.out).2.1 Hml.out.1 Hml.out.2).mono ?_; rintro e w9 ⟨rfl, hb9⟩; have HB9 := Lib.hid hb9; clear hb9))
    go_ret
    have hbq := HB6.out.trans ((HB8.out.mono HB6.out.size).trans (HB9.out.mono (Nat.le_trans HB6.out.size HB8.out.size)))
    exact ⟨rfl, own0, F, A, o, ((HD.out _ (below_drewN (Below.refl _ _) q)).below hbq own0 (fun _ _ => rfl)).mono (Nat.le_succ _), (HE.out _ (below_drewN (Below.refl _ _) q)).trans (.of_below hbq (Fwd.FwR.size (HD.out _ (below_drewN (Below.refl _ _) q)).fw))⟩
  · have HP := Lib.hid (fun W (hb : Below X.heap.size X W) => show Calls Tryz.prog 49 #[.pointer (some ⟨b, 0, none⟩)] W (fun e w' => ∃ u, e = .returned (.tuple #[u, .bool (closeR 1048576 A []).2.1]) ∧ Kd.R kI 3 w' W.heap.size (fun _ => True) u (closeR 1048576 A []).1 ∧ Below W.heap.size W w') from by
      have h1 := units_any W B b m N F W (HD.out W hb).fw (by omega)
      have h2 : closeR F.vars F.all [] = closeR 1048576 A [] := units_same (F := un F) Hsr.out.rel
      unfold UnitsPost at h1
      rw [h2] at h1
      refine h1.mono fun e w' hh => ?_
      obtain ⟨u, e1, e2, e3⟩ := hh
      exact ⟨u, e1, r_of_own (by rw [show (ints .i64 (closeR 1048576 A []).1).length = (closeR 1048576 A []).1.length by simp [ints]]; exact e2), e3⟩)
    have HR := Lib.hid (fun W (hb : Below X.heap.size X W) W2 (hb2 : Below W.heap.size W W2) => runits_any _ W B br A o W2 ((HD.out W hb).rf.step hb2) Hok.out)
    have Hml := Lib.hid (show (closeR 1048576 A []).1.length < 9223372036854775807 from by
      unfold closeR
      split
      · split
        · exact tidy_small _
        · simp
      · simp)
    subst hX
    generalize (closeR 1048576 A []).1 = T at *
    generalize (closeR 1048576 A []).2.1 = cl at *
    go_enter Tryz.func21, Tryz.ntmps21
    go_wp2_with (first
      | (go_at_call 20; refine HPk.out.mono ?_; rintro e w4 ⟨rfl, q, rfl⟩; obtain ⟨y1, y2⟩ := (HoX.out _ (below_drewN (Below.refl _ _) q)).cell)
      | (go_at_call 49; refine (HP.out _ (below_drewN (Below.refl _ _) q)).mono ?_; rintro e w6 ⟨v6, rfl, hR6, hb6⟩; have HB6 := Lib.hid hb6; obtain ⟨A6, c6, e6⟩ := Kd.R_slice hR6; subst e6; have HR6 := Lib.hid hR6; clear hb6 hR6)
      | (go_at_call 50; refine (HR.out _ (below_drewN (Below.refl _ _) q) w6 HB6.out).mono ?_; rintro e w8 ⟨v8, rfl, hR8, hb8⟩; have HB8 := Lib.hid hb8; obtain ⟨A8, c8, e8⟩ := Kd.R_slice hR8; subst e8; have HR8 := Lib.hid hR8; clear hb8 hR8)
      | (go_at_call 51; refine (sameints_any A6 c6 A8 c8 T w8 (Kd.R_reads' (Kd.R_below HR6.out HB8.out)).2.2 (Kd.R_reads' HR6.out).2.1 (Kd.R_reads' HR8.out).2.2 (Kd.R_reads' HR8.out).2.1 Hml.out).mono ?_; rintro e w9 ⟨rfl, hb9⟩; have HB9 := Lib.hid hb9; clear hb9))
    go_ret
    have hbq := HB6.out.trans ((HB8.out.mono HB6.out.size).trans (HB9.out.mono (Nat.le_trans HB6.out.size HB8.out.size)))
    exact ⟨by simp, own0, F, A, o, ((HD.out _ (below_drewN (Below.refl _ _) q)).below hbq own0 (fun _ _ => rfl)).mono (Nat.le_succ _), (HE.out _ (below_drewN (Below.refl _ _) q)).trans (.of_below hbq (Fwd.FwR.size (HD.out _ (below_drewN (Below.refl _ _) q)).fw))⟩
  · have HP := Lib.hid (fun W (hb : Below X.heap.size X W) => show Calls Tryz.prog 37 #[.pointer (some ⟨b, 0, none⟩)] W (fun e w' => e = .returned (.bool o) ∧ w' = W) from by
      have := fdone_any W B b m N F W (HD.out W hb).fw
      rw [Hsr.out.dn] at this
      exact this)
    have HR := Lib.hid (fun W (hb : Below X.heap.size X W) => rdone_any _ W B br A o W (HD.out W hb).rf)
    subst hX
    go_enter Tryz.func21, Tryz.ntmps21
    go_wp2_with (first
      | (go_at_call 20; refine HPk.out.mono ?_; rintro e w4 ⟨rfl, q, rfl⟩; obtain ⟨y1, y2⟩ := (HoX.out _ (below_drewN (Below.refl _ _) q)).cell)
      | (go_at_call 37; refine (HP.out _ (below_drewN (Below.refl _ _) q)).mono ?_; rintro e w6 ⟨rfl, rfl⟩)
      | (go_at_call 52; refine (HR.out _ (below_drewN (Below.refl _ _) q)).mono ?_; rintro e w8 ⟨rfl, rfl⟩))
    go_ret
    exact ⟨by simp, own0, F, A, o, (HD.out _ (below_drewN (Below.refl _ _) q)).mono (Nat.le_succ _), HE.out _ (below_drewN (Below.refl _ _) q)⟩
end Go.Proofs.YtcaoobdbgdldaaaGreatDoor.Sc
