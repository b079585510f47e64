/- Part of the proof of ForwardScript: what the law uses of the text FcB. -/
import Derived.Test.YtcaoobdbgdldaaaGreatDoorZPFcA
import Derived.Test.YtcaoobdbgdldaaaGreatDoorZPSnd
import Derived.Test.YtcaoobdbgdldaaaGreatDoorZPJP5
namespace Go.Proofs.YtcaoobdbgdldaaaGreatDoor.Rfw
open Go.RowKit Go.Proofs.YtcaoobdbgdldaaaGreatDoor.Lit Go.Proofs.YtcaoobdbgdldaaaGreatDoor.Spr Go.Proofs.YtcaoobdbgdldaaaGreatDoor.P Go.Proofs.YtcaoobdbgdldaaaGreatDoor.Rf Go.Proofs.YtcaoobdbgdldaaaGreatDoorW.PrintWords Go.Proofs.YtcaoobdbgdldaaaGreatDoorW.PrintLast
set_option linter.unusedVariables false
set_option linter.unusedSimpArgs false

def KnownP (A : List (List Int)) (c : List Int) : Prop := Clash A [] ∨ ∃ x ∈ c, UP A [] x ∧ ∀ y ∈ c, y ≠ x → UP A [] (-y)
open Classical in
noncomputable def rKnown (A : List (List Int)) (c : List Int) : Bool := decide (KnownP A c)
def allV (V l : List Int) : Bool := l.all fun y => decide (vv V y = -1)
def prd (V c : List Int) (x : Int) : Bool := decide (vv V x = 1) && allV V (withoutL c x)
def kn (V c : List Int) : Bool := c.any (prd V c)
theorem kn_iff {A : List (List Int)} {V c : List Int} (hc : ∀ x ∈ c, fm x = true) (h0 : ¬ Clash A []) (h : ∀ l, fm l = true → (vv V l = 1 ↔ UP A [] l)) : kn V c = rKnown A c := by
  classical
  rw [Bool.eq_iff_iff]
  unfold kn rKnown
  rw [decide_eq_true_eq, List.any_eq_true]
  constructor
  · rintro ⟨x, hx, hb⟩
    unfold prd allV at hb
    rw [Bool.and_eq_true, decide_eq_true_eq, List.all_eq_true] at hb
    refine .inr ⟨x, hx, (h x (hc x hx)).1 hb.1, fun y hy hne => ?_⟩
    have h1 := of_decide_eq_true (hb.2 y (Fwd.m_without.2 ⟨hy, hc y hy, hne⟩))
    refine (h (-y) (fm_neg (hc y hy))).1 ?_
    rw [vv_neg V (hc y hy), h1]; rfl
  · rintro (h1 | ⟨x, hx, h1, h2⟩)
    · exact absurd h1 h0
    · refine ⟨x, hx, ?_⟩
      unfold prd allV
      rw [Bool.and_eq_true, decide_eq_true_eq, List.all_eq_true]
      refine ⟨(h x (hc x hx)).2 h1, fun y hy => decide_eq_true ?_⟩
      obtain ⟨h3, h4, h5⟩ := Fwd.m_without.1 hy
      have h6 := (h (-y) (fm_neg h4)).2 (h2 y h3 h5)
      rw [vv_neg V h4] at h6
      omega

theorem rvalue_any (Av : Option Addr) (cv : Nat) (V : List Int) (x : Int) (w : World) (hV : Kd.C kI w Av V.length V) (hcv : V.length ≤ cv) (hs : Vs V) (hx : fm x = true) :
    Calls Tryz.prog 108 #[.slice Av V.length cv, .int .i64 x] w fun e w' => e = .returned (.int .i64 (vv V x)) ∧ Below w.heap.size w w' :=
  (depotref06_Value.calls Av cv V x _ w hV hcv (value V hs x hx)).mono fun e w' h => ⟨h.1, h.2.below⟩
theorem rwithout_any (Ac : Option Addr) (cc : Nat) (c : List Int) (x : Int) (w : World) (hC : Kd.C kI w Ac c.length c) (hcc : c.length ≤ cc) (hl : c.length ≤ 2097152) :
    Calls Tryz.prog 109 #[.slice Ac c.length cc, .int .i64 x] w fun e w' => ∃ A1 c1, e = .returned (.slice A1 (withoutL c x).length c1) ∧ (withoutL c x).length ≤ c1 ∧ Kd.C kI w' A1 (withoutL c x).length (withoutL c x) ∧ Below w.heap.size w w' := by
  obtain ⟨k, hk⟩ := (without01 c x (by omega)).rounds
  refine (depotref01_Without.calls k Ac cc c x _ w hC hcc hk).mono fun e w' h => ?_
  obtain ⟨v, he, hR, hb⟩ := h
  obtain ⟨A1, c1, rfl⟩ := Kd.R_slice hR
  obtain ⟨_, h2, h3⟩ := Kd.R_reads' hR
  exact ⟨A1, c1, he, h2, h3, hb⟩
theorem rclosing_any (v : Int) (A : List (List Int)) (hok : RfOk A) :
    ∃ V : List Int, ∃ cl : Bool, Vs V ∧ (cl = true → Clash A []) ∧ (cl = false → ¬ Clash A [] ∧ ∀ l, fm l = true → (vv V l = 1 ↔ UP A [] l)) ∧ ∀ (Ad : Option Addr) (cd : Nat) (w : World), Kd.C kL w Ad A.length A → A.length ≤ cd →
    Calls Tryz.prog 107 #[.agg #[.int .i64 v, .slice Ad A.length cd], .slice none 0 0] w fun e w' => ∃ Av cv, e = .returned (.tuple #[.slice Av V.length cv, .bool cl]) ∧ V.length ≤ cv ∧ Kd.C kI w' Av V.length V ∧ Below w.heap.size w w' := by
  obtain ⟨r, he, h1, h2, h3⟩ := closing v A [] hok.f (fun x hx => by cases hx) (by have := hok.l; omega) (fun c hc => by have := hok.c8 c hc; omega) (by simp)
  obtain ⟨k, hk⟩ := he.rounds
  refine ⟨r.1, r.2, h1, h2, h3, fun Ad cd w hA hcd => ?_⟩
  refine (depotref06_Closing.calls k v Ad cd A none 0 [] r.1 r.2 w hA hcd (Kd.C_nil _ _) (Nat.le_refl _) hk).mono fun e w' h => ?_
  obtain ⟨v0, he, hR, hb⟩ := h
  obtain ⟨A1, c1, rfl⟩ := Kd.R_slice hR
  obtain ⟨_, h2, h3⟩ := Kd.R_reads' hR
  exact ⟨A1, c1, he, h2, h3, hb⟩

theorem ints_at {w : World} {Ac : Option Addr} {c : List Int} (hC : Kd.C kI w Ac c.length c) (k : Nat) (hk : k < c.length) : ∃ ad, Ac = some ad ∧ ∀ W, Below w.heap.size w W → W.cell? (ad.add k) = some (.int .i64 (c.getD k 0)) := by
  obtain ⟨_, _, h⟩ := Kd.reads_of_C (d := 0) hC
  obtain ⟨ad, e, hc⟩ := h (by omega)
  exact ⟨ad, e, fun W hb => (hb.cell (World.block_lt_of_cell? w _ (hc k hk))).trans (hc k hk)⟩

set_option maxHeartbeats 8000000 in
set_option maxRecDepth 100000 in
theorem rknown_any (O : Nat → Prop) (w0 : World) (B b : Nat) (A : List (List Int)) (o : Bool) (Ac : Option Addr) (cc : Nat) (c : List Int) (w : World) (h : RfR O w0 B b A o w) (hC : Kd.C kI w Ac c.length c) (hcc : c.length ≤ cc) (hok : RfOk A) (hl : c.length ≤ 2097152) (hf : ∀ x ∈ c, fm x = true) :
    Calls Tryz.prog 78 #[.pointer (some ⟨b, 0, none⟩), .slice Ac c.length cc] w fun e w' => e = .returned (.bool (rKnown A c)) ∧ Below w.heap.size w w' := by
  obtain ⟨Ad, ca, hb, hN, hbw, hBb, _⟩ := h
  have hbl : b < w.heap.size := (Array.getElem?_eq_some_iff.1 hb).1
  have HF := Lib.hid (formula_any b A.length ca Ad o w hb)
  obtain ⟨V, cl, hVs, hcl1, hcl2, hCl⟩ := rclosing_any 1048576 A hok
  have HCl := Lib.hid (fun W (hw : Below w.heap.size w W) => hCl Ad ca W (Kd.N_reads' (Kd.N_below hN hw)).2.2 (Kd.N_reads' hN).2.1)
  have HVs := Lib.hid hVs
  have HC := Lib.hid hC
  have Hf := Lib.hid hf
  have HW := Lib.hid (fun W x (hw : Below w.heap.size w W) => rwithout_any Ac cc c x W (Kd.C_below HC.out hw) hcc hl)
  have Hc := Lib.hid (fun k hk => ints_at HC.out k hk)
  clear hb hN hbw hC hok hCl
  cases cl with
  | true =>
    rw [show rKnown A c = true from by classical exact decide_eq_true (.inl (hcl1 rfl))]
    clear hcl1 hcl2
    go_enter Tryz.func78, Tryz.ntmps78
    go_wp2_with (first
      | (go_at_call 79; refine HF.out.mono ?_; rintro e w1 ⟨rfl, hB1⟩; have HB1 := Lib.hid (hB1.alloc hB1.size (Obj.cells #[.int .i64 1048576, .slice Ad A.length ca] 24)); clear hB1)
      | (go_at_call 107; refine (HCl.out _ HB1.out).mono ?_; rintro e w2 ⟨Av, cv, rfl, hcv, hVC, hB2⟩; have HB2 := Lib.hid (HB1.out.trans (hB2.mono HB1.out.size)); clear hB2 hVC))
    go_ret
    exact ⟨rfl, HB2.out⟩
  | false =>
    rw [← kn_iff hf (hcl2 rfl).1 (hcl2 rfl).2]
    clear hcl1 hcl2 hf hVs
    have HSn := Lib.hid (fun k (hk : k < c.length) => show c.take (k + 1) = c.take k ++ [c.getD k 0] by rw [List.take_add_one, List.getD_eq_getElem?_getD, List.getElem?_eq_getElem hk]; rfl)
    have HEnd := Lib.hid (show c.take c.length = c from List.take_length)
    have HMem := Lib.hid (fun k (hk : k < c.length) => get_mem (xs := c) 0 hk)
    go_enter Tryz.func78, Tryz.ntmps78
    go_wp2_with (first
      | (go_at_call 79; refine HF.out.mono ?_; rintro e w1 ⟨rfl, hB1⟩; have HB1 := Lib.hid (hB1.alloc hB1.size (Obj.cells #[.int .i64 1048576, .slice Ad A.length ca] 24)); clear hB1)
      | (go_at_call 107; refine (HCl.out _ HB1.out).mono ?_; rintro e w2 ⟨Av, cv, rfl, hcv, hVC, hB2⟩; have HB2 := Lib.hid (HB1.out.trans (hB2.mono HB1.out.size)); have HVC := Lib.hid hVC; clear hB2 hVC))
    have HV := Lib.hid (fun W x (hw : Below w2.heap.size w2 W) (hx : fm x = true) => rvalue_any Av cv V x W (Kd.C_below HVC.out hw) hcv HVs.out hx)
    go_loopw [8] (fun i wr => ∃ k : Nat, k ≤ c.length ∧ i = .int .i64 k ∧ Below w2.heap.size w2 wr ∧ Hid ((c.take k).any (prd V c) = false)) (fun i _ => c.length - (intOf i).toNat)
    case atStart => exact ⟨0, Nat.zero_le _, rfl, Below.refl _ _, Lib.hid rfl⟩
    case round =>
      obtain ⟨k, hk, rfl, hB, hno⟩ := hrel
      have HB := Lib.hid hB
      clear hB
      by_cases hlt : k < c.length
      · obtain ⟨ad, hA, hcell⟩ := Hc.out k hlt
        subst hA
        have hx0 := hcell wr (HB2.out.trans (HB.out.mono HB2.out.size))
        have hfx := Hf.out _ (HMem.out k hlt)
        have HS := Lib.hid (HSn.out k hlt)
        have HM := Lib.hid (HMem.out k hlt)
        have HVx := Lib.hid (HV.out wr _ HB.out hfx)
        have HCe := Lib.hid (fun W (hb : Below w2.heap.size w2 W) => hcell W (HB2.out.trans (hb.mono HB2.out.size)))
        clear hcell
        generalize c.getD k 0 = x at *
        by_cases hv : vv V x = 1
        · rw [hv] at HVx
          have HP : Hid (prd V c x = allV V (withoutL c x)) := Lib.hid (by unfold prd; rw [decide_eq_true hv, Bool.true_and])
          have Hr2 := Lib.hid (fun y (hy : y ∈ withoutL c x) => (Fwd.m_without.1 hy).2.1)
          have HWx := Lib.hid (fun W (hb : Below w2.heap.size w2 W) => HW.out W x (HB2.out.trans (hb.mono HB2.out.size)))
          have hrl : (withoutL c x).length ≤ 2097152 := without_len c x
          generalize withoutL c x = rest at *
          have HSr := Lib.hid (fun m (hm : m < rest.length) => show rest.take (m + 1) = rest.take m ++ [rest.getD m 0] by rw [List.take_add_one, List.getD_eq_getElem?_getD, List.getElem?_eq_getElem hm]; rfl)
          have HEr := Lib.hid (show rest.take rest.length = rest from List.take_length)
          have HMr := Lib.hid (fun m (hm : m < rest.length) => get_mem (xs := rest) 0 hm)
          clear hv
          go_wp2_with (first
            | (go_at_call 108; refine HVx.out.mono ?_; rintro e w3 ⟨rfl, hB3⟩; have HB3 := Lib.hid (HB.out.trans (hB3.mono HB.out.size)); have hx3 := HCe.out w3 HB3.out; clear hB3)
            | (go_at_call 109; refine (HWx.out w3 HB3.out).mono ?_; rintro e w4 ⟨A4, c4, rfl, hc4, hC4, hB4⟩; have HB4 := Lib.hid (HB3.out.trans (hB4.mono HB3.out.size)); have Hr4 := Lib.hid (fun m hm => ints_at hC4 m hm); clear hB4 hC4))
          go_loopw [10, 11] (fun a j wr2 => ∃ m : Nat, m ≤ rest.length ∧ j = .int .i64 m ∧ a = .bool (allV V (rest.take m)) ∧ Below w4.heap.size w4 wr2) (fun _ j _ => rest.length - (intOf j).toNat)
          case atStart => exact ⟨0, Nat.zero_le _, rfl, rfl, Below.refl _ _⟩
          case round =>
            obtain ⟨m, hm, rfl, rfl, hBm⟩ := hrel
            have HBm := Lib.hid hBm
            clear hBm
            by_cases hltm : m < rest.length
            · obtain ⟨ad4, hA4, hcell4⟩ := Hr4.out m hltm
              subst hA4
              have hy0 := hcell4 wr HBm.out
              have hfy := Hr2.out _ (HMr.out m hltm)
              have HSm := Lib.hid (HSr.out m hltm)
              have HVy := Lib.hid (HV.out wr _ (HB4.out.trans (HBm.out.mono HB4.out.size)) hfy)
              clear hcell4
              generalize rest.getD m 0 = y at *
              have HQ : Hid (allV V (rest.take (m + 1)) = (allV V (rest.take m) && decide (vv V y = -1))) := Lib.hid (by rw [HSm.out]; unfold allV; rw [List.all_append]; simp)
              generalize allV V (rest.take m) = pa at *
              by_cases hy : vv V y = -1
              · rw [hy] at HVy
                have HQ2 : Hid (allV V (rest.take (m + 1)) = pa) := Lib.hid (by rw [HQ.out, decide_eq_true hy, Bool.and_true])
                go_wp2_with (go_at_call 108; refine HVy.out.mono ?_; rintro e w5 ⟨rfl, hB5⟩; have HB5 := Lib.hid (HBm.out.trans (hB5.mono HBm.out.size)); clear hB5)
                go_roundw
                case rel => exact ⟨m + 1, by omega, by go_num, by rw [HQ2.out], HB5.out⟩
                case measure => simp [intOf]; omega
              · have HQ2 : Hid (allV V (rest.take (m + 1)) = false) := Lib.hid (by rw [HQ.out, decide_eq_false hy, Bool.and_false])
                generalize vv V y = vy at *
                go_wp2_with (go_at_call 108; refine HVy.out.mono ?_; rintro e w5 ⟨rfl, hB5⟩; have HB5 := Lib.hid (HBm.out.trans (hB5.mono HBm.out.size)); clear hB5)
                go_roundw
                case rel => exact ⟨m + 1, by omega, by go_num, by rw [HQ2.out], HB5.out⟩
                case measure => simp [intOf]; omega
            · obtain rfl : m = rest.length := by omega
              have HAe : Hid (allV V (rest.take rest.length) = prd V c x) := Lib.hid (by rw [HEr.out, HP.out])
              rw [HAe.out]
              have HBe := Lib.hid (HB4.out.trans (HBm.out.mono HB4.out.size))
              cases hp : prd V c x with
              | true =>
                have Hk : Hid (kn V c = true) := Lib.hid (List.any_eq_true.2 ⟨x, HM.out, hp⟩)
                go_wp2
                go_ret
                exact ⟨by rw [Hk.out]; rfl, HB2.out.trans (HBe.out.mono HB2.out.size)⟩
              | false =>
                have Hp := Lib.hid hp
                clear hp
                go_wp2
                go_roundw
                case rel => exact ⟨k + 1, by omega, by go_num, HBe.out, Lib.hid (by rw [HS.out, List.any_append, hno.out, List.any_cons, Hp.out]; rfl)⟩
                case measure => simp [intOf]; omega
        · have HP : Hid (prd V c x = false) := Lib.hid (by unfold prd; rw [decide_eq_false hv]; rfl)
          generalize vv V x = y at *
          go_wp2_with (go_at_call 108; refine HVx.out.mono ?_; rintro e w3 ⟨rfl, hB3⟩; have HB3 := Lib.hid (HB.out.trans (hB3.mono HB.out.size)); clear hB3)
          go_roundw
          case rel => exact ⟨k + 1, by omega, by go_num, HB3.out, Lib.hid (by rw [HS.out, List.any_append, hno.out, List.any_cons, HP.out]; rfl)⟩
          case measure => simp [intOf]; omega
      · obtain rfl : k = c.length := by omega
        have Hno : Hid (kn V c = false) := Lib.hid (by have := hno.out; rw [HEnd.out] at this; exact this)
        go_wp2
        go_ret
        exact ⟨by rw [Hno.out]; rfl, HB2.out.trans (HB.out.mono HB2.out.size)⟩

end Go.Proofs.YtcaoobdbgdldaaaGreatDoor.Rfw
