/- Part of the proof of ForwardScript: what the law uses of the text ScU. -/
import Derived.Test.YtcaoobdbgdldaaaGreatDoorZPScC
import Derived.Test.YtcaoobdbgdldaaaGreatDoorZPFwP
import Derived.Test.YtcaoobdbgdldaaaGreatDoorZPSnd
namespace Go.Proofs.YtcaoobdbgdldaaaGreatDoor.Sc
open Go.RowKit Go.Proofs.YtcaoobdbgdldaaaGreatDoor.Lit Go.Proofs.YtcaoobdbgdldaaaGreatDoor.Spr Go.Proofs.YtcaoobdbgdldaaaGreatDoor.P Go.Proofs.YtcaoobdbgdldaaaGreatDoor.Rf Go.Proofs.YtcaoobdbgdldaaaGreatDoor.Rfw Go.Proofs.YtcaoobdbgdldaaaGreatDoorW.PrintWords Go.Proofs.YtcaoobdbgdldaaaGreatDoorW.PrintLast
set_option linter.unusedVariables false
set_option linter.unusedSimpArgs false

theorem rclose_any (Ad : Option Addr) (ca : Nat) (A : List (List Int)) (w : World) (hA : Kd.C kL w Ad A.length A) (hca : A.length ≤ ca) (hok : RfOk A) :
    Calls Tryz.prog 85 #[.agg #[.int .i64 1048576, .slice Ad A.length ca], .slice none 0 0] w fun e w' => ∃ v, e = .returned (.tuple #[v, .bool (closeR 1048576 A []).2.1, .int .i64 (closeR 1048576 A []).2.2]) ∧ Kd.R kI 3 w' w.heap.size (fun _ => True) v (closeR 1048576 A []).1 ∧ Below w.heap.size w w' := by
  obtain ⟨k, hk⟩ := (close06 1048576 A [] (by have := hok.l; omega) (fun c hc => by have := hok.c8 c hc; omega) (by simp)).rounds
  exact depotref06_Close.calls k 1048576 Ad ca A none 0 [] _ _ _ w hA hca ⟨rfl, by simp, fun h0 => absurd h0 (by simp)⟩ (Nat.le_refl _) hk

set_option maxHeartbeats 2000000 in
set_option maxRecDepth 100000 in
theorem runits_any (O : Nat → Prop) (w0 : World) (B b : Nat) (A : List (List Int)) (o : Bool) (w : World) (h : RfR O w0 B b A o w) (hok : RfOk A) :
    Calls Tryz.prog 50 #[.pointer (some ⟨b, 0, none⟩)] w fun e w' => ∃ v, e = .returned (.tuple #[v, .bool (closeR 1048576 A []).2.1]) ∧ Kd.R kI 3 w' w.heap.size (fun _ => True) v (closeR 1048576 A []).1 ∧ Below w.heap.size w w' := by
  obtain ⟨Ad, ca, hb, hN, hbw, hBb, _⟩ := h
  have HN := Lib.hid hN
  have Hca := Lib.hid (Kd.N_reads' hN).2.1
  have HF := Lib.hid (formula_any b A.length ca Ad o w hb)
  have HC := Lib.hid (fun W (hw : Below w.heap.size w W) => rclose_any Ad ca A W (Kd.N_reads' (Kd.N_below HN.out hw)).2.2 Hca.out hok)
  clear hb hN hbw hok
  generalize (closeR 1048576 A []).1 = r1 at *
  generalize (closeR 1048576 A []).2.1 = r2 at *
  generalize (closeR 1048576 A []).2.2 = r3 at *
  generalize A.length = n at *
  go_enter Tryz.func50, Tryz.ntmps50
  go_wp2_with (first
    | (go_at_call 79; refine HF.out.mono ?_; rintro e w2 ⟨rfl, hB2⟩; have HB2 := Lib.hid hB2; clear hB2)
    | (go_at_call 85; refine (HC.out _ (HB2.out.alloc HB2.out.size _)).mono ?_; rintro e w4 ⟨v4, rfl, hR4, hB4⟩; have HR4 := Lib.hid (Kd.R_lower hR4 (HB2.out.alloc HB2.out.size _).size); have HB4 := Lib.hid ((HB2.out.alloc HB2.out.size _).trans (hB4.mono (HB2.out.alloc HB2.out.size _).size)); clear hR4 hB4))
  go_ret2
  exact ⟨_, rfl, HR4.out, HB4.out⟩
theorem rdone_any (O : Nat → Prop) (w0 : World) (B b : Nat) (A : List (List Int)) (o : Bool) (w : World) (h : RfR O w0 B b A o w) :
    Calls Tryz.prog 52 #[.pointer (some ⟨b, 0, none⟩)] w fun e w' => e = .returned (.bool o) ∧ w' = w := by
  obtain ⟨Ad, ca, hb, _⟩ := h
  obtain ⟨h1, h2, _⟩ := two_cells hb
  clear hb
  go_enter Tryz.func52, Tryz.ntmps52
  go_wp2
  go_ret
  exact ⟨rfl, rfl⟩

theorem close_sc {v u : Int} {cs ds : List (List Int)} (h : SameC cs ds) (h1 : formedB v cs = true) (h2 : formedB u ds = true) (hc : ∀ c ∈ cs, ∀ x ∈ c, fm x = true) (hd : ∀ c ∈ ds, ∀ x ∈ c, fm x = true) : closeR v cs [] = closeR u ds [] := by
  unfold closeR
  rw [asked_true h1 rfl, asked_true h2 rfl, if_pos rfl, if_pos rfl]
  obtain ⟨p1, p2⟩ := closed_up cs [] (by simp) hc
  obtain ⟨q1, q2⟩ := closed_up ds [] (by simp) hd
  cases e1 : (closedSt cs []).2 with
  | true =>
    cases e2 : (closedSt ds []).2 with
    | true =>
      simp only [↓reduceIte]
      have : tidyL (closedSt cs []).1.trail = tidyL (closedSt ds []).1.trail := rising_ext _ _ (tidy_rising _) (tidy_rising _) fun y => by
        rw [mem_tidy, mem_tidy, (p1 e1).2.2.1 y, (q1 e2).2.2.1 y, up_sc h [] y]
      rw [this]
    | false => exact absurd ((clash_sc h []).2 (q2 e2)) (p1 e1).2.2.2.2
  | false =>
    cases e2 : (closedSt ds []).2 with
    | true => exact absurd ((clash_sc h []).1 (p2 e1)) (q1 e2).2.2.2.2
    | false => simp
theorem units_same {F : Fwd.Fw} {A : List (List Int)} (h : Rel F A) : closeR F.vars F.all [] = closeR 1048576 A [] := close_sc h.same h.formed h.formedA h.fm h.f
end Go.Proofs.YtcaoobdbgdldaaaGreatDoor.Sc
