/- unit.Probe: what it comes to. -/
import Derived.Test.YthbccfgcemdgeaaAt
import Derived.Test.YthbccfgcemdgeaaBack
namespace Go.Proofs.Ythbccfgcemdgeaa.Spr
open Go.RowKit Go.Maps Go.Proofs.Ythbccfgcemdgeaa.Lit
set_option linter.unusedVariables false

def ProbePost (w : World) (r : List Int × Int) (e : Ending) (w' : World) : Prop :=
  ∃ u, e = .returned (.tuple #[u, .int .i64 r.2]) ∧ w'.ownsRow w.heap.size 3 1 u (ints .i64 r.1).length (ints .i64 r.1) ∧ Below w.heap.size w w'

theorem Led.row {w w' : World} {B b : Nat} {V : Vals} {S : St} (h : Led w B b V.kp S w') : ∃ τ' V', Rep w' B b τ' V' S ∧ Below B w w' ∧ IRow w' B τ' 9 3 .i64 V.vx V.xx ∧ V'.vx = V.vx ∧ V'.xx = V.xx := by
  obtain ⟨τ', V', R, hb, _, hk⟩ := h
  have h1 : (V'.cl, V'.vx, V'.xx) = (V.cl, V.vx, V.xx) := hk
  injection h1 with _ h2
  injection h2 with h3 h4
  exact ⟨τ', V', R, hb, by have := R.rx; rw [h3, h4] at this; exact this, h3, h4⟩

/-- What of the literals has been looked at. -/
def outL (cs : List (List Int)) (n : Nat) : List Int := ((List.range n).map fun (i : Nat) => litAt (i : Int)).filter fun l => !(closedSt cs [l]).2
theorem outL_succ (cs : List (List Int)) (n : Nat) : outL cs (n + 1) = outL cs n ++ (if (closedSt cs [litAt (n : Int)]).2 = true then [] else [litAt (n : Int)]) := by
  unfold outL
  rw [List.range_succ, List.map_append, List.filter_append]
  congr 1
  simp only [List.map_cons, List.map_nil]
  by_cases h : (closedSt cs [litAt (n : Int)]).2 = true
  · rw [if_pos h, List.filter_cons_of_neg (by simp [h])]; rfl
  · rw [if_neg h, List.filter_cons_of_pos (by simp [Bool.eq_false_iff.2 h])]; rfl
theorem outL_len (cs : List (List Int)) (n : Nat) : (outL cs n).length ≤ n := by
  unfold outL
  exact Nat.le_trans (List.length_filter_le _ _) (by simp)

set_option maxHeartbeats 4000000 in
set_option maxRecDepth 100000 in
theorem probe_any (v : Int) (A : Option Addr) (c : Nat) (cs : List (List Int)) (w : World) (hC : RC w A cs) (hS : Fits cs []) :
    Calls Try.prog 31 #[.agg #[.int .i64 v, .slice A cs.length c]] w (ProbePost w (probeR v cs)) := by
  have h24 := hS.1
  have h8 := hS.2.1
  have hHB : Below w.heap.size w (w.alloc (.cells #[.int .i64 v, .slice A cs.length c] 24)) := (Below.refl _ _).alloc (Nat.le_refl _) _
  have HFm := Lib.hid (cformed_any v A c cs _ (hC.below hHB) (by omega) (fun x hx => by have := h8 x hx; omega))
  have HB := Lib.hid hHB
  have hc0 : (w.alloc (.cells #[.int .i64 v, .slice A cs.length c] 24)).cell? ⟨w.heap.size, 0, none⟩ = some (.int .i64 v) := by simp
  have hc1 : (w.alloc (.cells #[.int .i64 v, .slice A cs.length c] 24)).cell? ⟨w.heap.size, 1, none⟩ = some (.slice A cs.length c) := by simp
  have HC1 := Lib.hid (And.intro hc0 hc1)
  clear hc0 hc1
  unfold ProbePost probeR
  by_cases hf : formedB v cs = true
  · rw [if_pos hf]
    rw [hf] at HFm
    by_cases hv : v > 2000
    · rw [if_pos hv]
      have hvd : decide (2000 < v) = true := decide_eq_true hv
      clear hC h8 h24 hHB hv hf
      go_enter Try.func31, Try.ntmps31
      go_wp2_with (go_at_call 64; refine HFm.out.mono ?_; rintro e w2 ⟨rfl, hb2⟩; have HB2 := Lib.hid (HB.out.trans (hb2.mono HB.out.size)); have hc0 := (hb2.cell (p := ⟨w.heap.size, 0, none⟩) (by simp)).trans HC1.out.1; clear hb2)
      go_ret2
      exact ⟨_, rfl, own_nil _ _, HB2.out⟩
    · rw [if_neg hv]
      have hvd : decide (2000 < v) = false := decide_eq_false hv
      have Hv2 := Lib.hid (show v ≤ 2000 by omega)
      have hv0 : 0 ≤ v := by
        unfold formedB at hf
        simp only [Bool.and_eq_true, decide_eq_true_eq] at hf
        exact hf.1.1
      have hfm : ∀ c ∈ cs, ∀ x ∈ c, fm x = true := by
        intro c hc x hx
        unfold formedB at hf
        rw [Bool.and_eq_true] at hf
        have := List.all_eq_true.1 hf.2 c hc
        unfold withinB at this
        rw [Bool.and_eq_true] at this
        exact List.all_eq_true.1 this.1 x hx
      have hnd : ∀ c ∈ cs.map tidyL, c.Nodup := fun c h => by obtain ⟨c', _, rfl⟩ := List.mem_map.1 h; exact tidy_nodup _
      have hlen : ∀ c ∈ cs.map tidyL, c.length ≤ 4611686018427387903 := fun c h => by obtain ⟨c', _, rfl⟩ := List.mem_map.1 h; have := tidy_len c'; omega
      have HCd := Lib.hid (fun (w2 : World) (hb : Below w.heap.size w w2) => closed_any A c cs none 0 [] w2 (hC.below hb) h8 h24 (fun k hk => absurd hk (by simp)) (by simp) (by simp))
      unfold ClosedPost at HCd
      have HFl := Lib.hid hfm
      have HNd := Lib.hid hnd
      have HLen := Lib.hid hlen
      have hpl : probeL v cs = outL cs (2 * v).toNat := rfl
      rw [hpl]
      obtain ⟨m, hm⟩ : ∃ m : Nat, v = m := ⟨v.toNat, by omega⟩
      subst hm
      have Hm2 := Lib.hid (show m ≤ 2000 by have := Hv2.out; omega)
      have h2m : (2 * (m : Int)).toNat = 2 * m := by omega
      rw [h2m]
      clear hC hS h8 h24 hHB hv hf hfm hnd hlen hpl h2m
      by_cases hok : (closedSt cs []).2 = true
      · have HRs := Lib.hid (closed_rest cs hok)
        rw [hok] at HCd
        generalize (closedSt cs []).1 = S0 at *
        clear hok
        obtain ⟨i3, hi3, z31, z32, z33⟩ := info_parts info3
        have Hi3 := Lib.hid (And.intro hi3 (And.intro z31 (And.intro z32 z33)))
        clear hi3 z31 z32 z33
        have hm2 := Hm2.out
        go_enter Try.func31, Try.ntmps31
        go_wp2_with (first
          | (go_at_call 64; refine HFm.out.mono ?_; rintro e w2 ⟨rfl, hb2⟩; have HB2 := Lib.hid (HB.out.trans (hb2.mono HB.out.size)); have hc0 := (hb2.cell (p := ⟨w.heap.size, 0, none⟩) (by simp)).trans HC1.out.1; have hc1 := (hb2.cell (p := ⟨w.heap.size, 1, none⟩) (by simp)).trans HC1.out.2; have HCd2 := Lib.hid (HCd.out w2 HB2.out); have hlt2 : w.heap.size < w2.heap.size := Nat.lt_of_lt_of_le (by simp) hb2.size; clear hb2)
          | (go_at_call 51; refine HCd2.out.mono ?_; rintro e w3 ⟨b3, τ3, V3, rfl, R3, G3, hb3⟩; have HR3 := Lib.hid R3; have HG3 := Lib.hid G3; have HB3 := Lib.hid (HB2.out.trans (hb3.mono HB2.out.size)); have hd0 := (hb3.cell (p := ⟨w.heap.size, 0, none⟩) hlt2).trans hc0; clear R3 G3)
          | (go_at_call 60; refine (lits_any HR3.out HG3.out.ok.trail_le).mono ?_; rintro e w4 ⟨v4, rfl, ho4, hb4⟩; obtain ⟨A4, c4, rfl, hi4⟩ := own_IC ho4; have HR4 := Lib.hid (((HR3.out.stay (w1 := w4) (τ1 := τ3) ⟨hb4.size, fun _ _ => rfl, fun k hk _ => hb4.block k hk⟩)).set_vx (Stay.refl _ _ _) (v' := .slice none 0 0) (xs := []) ⟨own_nil _ _, Tg.nil _ _ _ _⟩); have HB4 := Lib.hid (HB3.out.trans (hb4.mono HB3.out.size)); have he0 := (hb4.cell (p := ⟨w.heap.size, 0, none⟩) (Nat.lt_of_lt_of_le hlt2 hb3.size)).trans hd0; clear ho4 hb4 hi4))
        go_loopw [7, 28] (fun o i wr => ∃ (n : Nat) (τ : Nat → Nat) (V : Vals) (S : St), n ≤ 2 * m ∧ i = .int .i64 n ∧ Rep wr w2.heap.size b3 τ V S ∧ Hid (Rest (cs.map tidyL) S0.trail S) ∧ o = V.vx ∧ V.xx = outL cs n ∧ Below w.heap.size w wr) (fun _ i _ => 2 * m - (intOf i).toNat)
        case atStart => exact ⟨0, _, _, S0, Nat.zero_le _, rfl, HR4.out, HRs.out, rfl, rfl, HB4.out⟩
        case round =>
          obtain ⟨n, τ, V, S, hn, rfl, R, hrest, rfl, hxx, hbw⟩ := hrel
          have HR := Lib.hid R
          have HRe := Lib.hid hrest.out
          have HW := Lib.hid hbw
          have hon := outL_len cs n
          rw [← hxx] at hon
          have HX := Lib.hid hxx
          clear R hrest hbw hxx
          by_cases hlt : n < 2 * m
          · have hl := litAt_fm (i := (n : Int)) (by omega) (by omega)
            have HS := Lib.hid (outL_succ cs n)
            have HI := Lib.hid (closed_iff cs HFl.out (litAt (n : Int)) hl)
            have HAt := Lib.hid (fun w' => at_any (n : Int) (by omega) (by omega) w')
            have hnd2 : decide (n < 2 * m) = true := decide_eq_true hlt
            generalize litAt (n : Int) = l at *
            have Hfl := Lib.hid hl
            have HV := Lib.hid (value_any HR.out l HRe.out.inv.good.ok.lnv HRe.out.inv.good.ok.bv (by have := HRe.out.inv.good.ok.ids_le; omega))
            clear hl
            obtain ⟨Ao, co, hvx⟩ := own_slice HR.out.rx.own
            obtain ⟨Vm, Vvc, Vvin, Vvo, Vvon, Vvv, Vvw, Vvt, Vcl, Vinn, VD, Vvx, Vxx⟩ := V
            dsimp only at hvx hon HX
            subst hvx
            by_cases hv : vl S l = -1
            · have HNo := Lib.hid (HRe.out.no l Hfl.out hv)
              rw [hv] at HV
              go_wp2_with (first
                | (go_at_call 65; refine (HAt.out _).mono ?_; rintro e w' ⟨rfl, rfl⟩)
                | (go_at_call 52; refine HV.out.mono ?_; rintro e w' ⟨rfl, nq, rfl⟩; have HRq := Lib.hid (HR.out.stay (Stay.drewN _ _ _ nq)); have HWq := Lib.hid (below_drewN HW.out nq))
                | (at_builtin; refine wpList_append_own_at _ rfl (.tmp 41) (.tmp 43) 25 rfl w2.heap.size 3 i3 (.int .i64 0) 1 8 Try.underlying25 Hi3.out.1 Hi3.out.2.1 Hi3.out.2.2.1 Hi3.out.2.2.2 rfl (by decide) _ _ _ rfl (HRq.out.rx.own.alloc _) ⟨wr.heap.size, 0, none⟩ 1 1 [.int .i64 l] rfl rfl (one_new _ _ rfl) (by simp [Value.oneCell']) ?_ ?_ ?_ ?_; (simp only [ints_len]; unfold maxLen; omega); (simp only [ints_len]; omega); (exact base_alloc HRq.out.base _); intro v5 w5 hown5 hgrow5 hnil5 hat5; have HR5 := Lib.hid (HRq.out.set_vx (stay_push _ hgrow5 HRq.out.rx.tag) ⟨row_snoc (x := l) hown5, tag_push _ hat5 HRq.out.rx.tag⟩); have HW5 := Lib.hid (below_push _ hgrow5 HRq.out.base (own_base HRq.out.rx.own)); clear hown5 hgrow5 hnil5 hat5))
              go_roundw
              case rel =>
                refine ⟨n + 1, _, _, S, by omega, by go_num, HR5.out, HRe.out, rfl, ?_, HWq.out.trans (HW5.out.mono HB2.out.size)⟩
                rw [HS.out, ← HX.out, if_neg (fun h => (HI.out.1 h) HNo.out)]
              case measure => simp [intOf]; omega
            · have HPr := Lib.hid (HRe.out.probe HNd.out HLen.out l Hfl.out hv)
              have hvf : (vl S l == -1) = false := by simpa using hv
              have HGp := Lib.hid (HRe.out.inv.good.put l (-1) Hfl.out)
              have HKp := Lib.hid (HRe.out.inv.kn.put l (-1))
              have HIb := Lib.hid (HPr.out.2.2.1.trans HI.out.symm)
              generalize hx : vl S l = x at *
              clear hx hv
              obtain ⟨o, ho⟩ : ∃ o, decide ((runF (fuel (putSt S l (-1))) (putSt S l (-1))).bad = -1) = o := ⟨_, rfl⟩
              have HO := Lib.hid ho
              clear ho
              cases o with
              | true =>
                have HS2 := Lib.hid (show outL cs (n + 1) = outL cs n by rw [HS.out, if_pos (HIb.out.1 (of_decide_eq_true HO.out)), List.append_nil])
                go_wp2_with (first
                  | (go_at_call 65; refine (HAt.out _).mono ?_; rintro e w' ⟨rfl, rfl⟩)
                  | (go_at_call 52; refine HV.out.mono ?_; rintro e w' ⟨rfl, nq, rfl⟩; have HRq := Lib.hid (HR.out.stay (Stay.drewN _ _ _ nq)); have HWq := Lib.hid (below_drewN HW.out nq))
                  | (go_at_call 66; refine (put_any HRq.out HRe.out.inv.good.ok l (-1)).mono ?_; rintro e w3' ⟨rfl, hl3⟩; obtain ⟨τ3', V3', R3', hb3', x3', e3', f3'⟩ := hl3.row; have HR3' := Lib.hid R3'; have HW3' := Lib.hid (HWq.out.trans (hb3'.mono HB2.out.size)); have HX3 := Lib.hid x3'; have HE3 := Lib.hid (And.intro e3' f3'); clear hl3 R3' hb3' x3' e3' f3')
                  | (go_at_call 67; refine (run_any HR3'.out HGp.out HKp.out (fuel (putSt S l (-1))) (by unfold fuel; omega)).mono ?_; rintro e w4 ⟨rfl, hl4⟩; rw [HO.out]; obtain ⟨τ4, V4, R4, hb4', x4, e4, f4⟩ := hl4.row; have HR4 := Lib.hid R4; have HW4 := Lib.hid (HW3'.out.trans (hb4'.mono HB2.out.size)); have HX4 := Lib.hid (show IRow w4 _ τ4 9 3 .i64 (.slice Ao (ints .i64 Vxx).length co) Vxx by have := x4; rw [HE3.out.1, HE3.out.2] at this; exact this); have HE4 := Lib.hid (And.intro (e4.trans HE3.out.1) (f4.trans HE3.out.2)); clear hl4 R4 hb4' x4 e4 f4)
                  | (go_at_call 68; refine (back_any HR4.out HPr.out.1 HNd.out HLen.out S0.trail.length HPr.out.2.1).mono ?_; rintro e w6 ⟨rfl, hl6⟩; obtain ⟨τ6, V6, R6, hb6, x6, e6, f6⟩ := hl6.row; have HR6 := Lib.hid R6; have HW6 := Lib.hid (HW4.out.trans (hb6.mono HB2.out.size)); have HE6 := Lib.hid (And.intro e6 f6); clear hl6 R6 hb6 x6 e6 f6))
                go_roundw
                case rel => exact ⟨n + 1, τ6, V6, _, by omega, by go_num, HR6.out, HPr.out.2.2.2, by rw [HE6.out.1, HE4.out.1], by rw [HE6.out.2, HE4.out.2, HS2.out]; exact HX.out, HW6.out⟩
                case measure => simp [intOf]; omega
              | false =>
                have HS2 := Lib.hid (show outL cs (n + 1) = outL cs n ++ [l] by rw [HS.out, if_neg (fun h => (of_decide_eq_false HO.out) (HIb.out.2 h))])
                go_wp2_with (first
                  | (go_at_call 65; refine (HAt.out _).mono ?_; rintro e w' ⟨rfl, rfl⟩)
                  | (go_at_call 52; refine HV.out.mono ?_; rintro e w' ⟨rfl, nq, rfl⟩; have HRq := Lib.hid (HR.out.stay (Stay.drewN _ _ _ nq)); have HWq := Lib.hid (below_drewN HW.out nq))
                  | (go_at_call 66; refine (put_any HRq.out HRe.out.inv.good.ok l (-1)).mono ?_; rintro e w3' ⟨rfl, hl3⟩; obtain ⟨τ3', V3', R3', hb3', x3', e3', f3'⟩ := hl3.row; have HR3' := Lib.hid R3'; have HW3' := Lib.hid (HWq.out.trans (hb3'.mono HB2.out.size)); have HX3 := Lib.hid x3'; have HE3 := Lib.hid (And.intro e3' f3'); clear hl3 R3' hb3' x3' e3' f3')
                  | (go_at_call 67; refine (run_any HR3'.out HGp.out HKp.out (fuel (putSt S l (-1))) (by unfold fuel; omega)).mono ?_; rintro e w4 ⟨rfl, hl4⟩; rw [HO.out]; obtain ⟨τ4, V4, R4, hb4', x4, e4, f4⟩ := hl4.row; have HR4 := Lib.hid R4; have HW4 := Lib.hid (HW3'.out.trans (hb4'.mono HB2.out.size)); have HX4 := Lib.hid (show IRow w4 _ τ4 9 3 .i64 (.slice Ao (ints .i64 Vxx).length co) Vxx by have := x4; rw [HE3.out.1, HE3.out.2] at this; exact this); have HE4 := Lib.hid (And.intro (e4.trans HE3.out.1) (f4.trans HE3.out.2)); clear hl4 R4 hb4' x4 e4 f4)
                  | (at_builtin; refine wpList_append_own_at _ rfl (.tmp 51) (.tmp 53) 25 rfl w2.heap.size 3 i3 (.int .i64 0) 1 8 Try.underlying25 Hi3.out.1 Hi3.out.2.1 Hi3.out.2.2.1 Hi3.out.2.2.2 rfl (by decide) _ _ _ rfl (HX4.out.own.alloc _) ⟨w4.heap.size, 0, none⟩ 1 1 [.int .i64 l] rfl rfl (one_new _ _ rfl) (by simp [Value.oneCell']) ?_ ?_ ?_ ?_; (simp only [ints_len]; unfold maxLen; omega); (simp only [ints_len]; omega); (exact base_alloc HR4.out.base _); intro v5 w5 hown5 hgrow5 hnil5 hat5; have HR5 := Lib.hid (HR4.out.set_vx (stay_push _ hgrow5 HX4.out.tag) ⟨row_snoc (x := l) hown5, tag_push _ hat5 HX4.out.tag⟩); have HW5 := Lib.hid (HW4.out.trans ((below_push _ hgrow5 HR4.out.base (own_base HX4.out.own)).mono HB2.out.size)); clear hown5 hgrow5 hnil5 hat5)
                  | (go_at_call 68; refine (back_any HR5.out HPr.out.1 HNd.out HLen.out S0.trail.length HPr.out.2.1).mono ?_; rintro e w6 ⟨rfl, hl6⟩; obtain ⟨τ6, V6, R6, hb6, x6, e6, f6⟩ := hl6.row; have HR6 := Lib.hid R6; have HW6 := Lib.hid (HW5.out.trans (hb6.mono HB2.out.size)); have HE6 := Lib.hid (And.intro e6 f6); clear hl6 R6 hb6 x6 e6 f6))
                go_roundw
                case rel => exact ⟨n + 1, τ6, V6, _, by omega, by go_num, HR6.out, HPr.out.2.2.2, by rw [HE6.out.1], by rw [HE6.out.2, HS2.out, ← HX.out], HW6.out⟩
                case measure => simp [intOf]; omega
          · obtain rfl : n = 2 * m := by omega
            have hnd2 : decide (2 * m < 2 * m) = false := by simp
            go_wp2
            go_ret2
            refine ⟨_, rfl, ?_, HW.out⟩
            rw [← HX.out]
            exact own_lower HR.out.rx.own HB2.out.size
      · have hall : ∀ n : Nat, n < 2 * m → outL cs (n + 1) = outL cs n ++ [litAt (n : Int)] := by
          intro n hn
          have hl := litAt_fm (i := (n : Int)) (by omega) (by have := Hm2.out; omega)
          have hcl : ¬ (closedSt cs [litAt (n : Int)]).2 = true := by
            intro h
            have h1 := ((closed_up cs [litAt (n : Int)] (by simpa using hl) HFl.out).1 h).2.2.2.2
            have h2 := (closed_up cs [] (by simp) HFl.out).2 (Bool.eq_false_iff.2 hok)
            exact h1 (h2.mono (fun c hc => ⟨c, hc, fun _ => Iff.rfl⟩) (by simp))
          rw [outL_succ, if_neg hcl]
        have HAll := Lib.hid hall
        rw [Bool.eq_false_iff.2 hok] at HCd
        obtain ⟨i3, hi3, z31, z32, z33⟩ := info_parts info3
        have Hi3 := Lib.hid (And.intro hi3 (And.intro z31 (And.intro z32 z33)))
        clear hi3 z31 z32 z33 hall
        generalize (closedSt cs []).1 = S0 at *
        have hm2 := Hm2.out
        go_enter Try.func31, Try.ntmps31
        go_wp2_with (first
          | (go_at_call 64; refine HFm.out.mono ?_; rintro e w2 ⟨rfl, hb2⟩; have HB2 := Lib.hid (HB.out.trans (hb2.mono HB.out.size)); have hc0 := (hb2.cell (p := ⟨w.heap.size, 0, none⟩) (by simp)).trans HC1.out.1; have hc1 := (hb2.cell (p := ⟨w.heap.size, 1, none⟩) (by simp)).trans HC1.out.2; have HCd2 := Lib.hid (HCd.out w2 HB2.out); have hlt2 : w.heap.size < w2.heap.size := Nat.lt_of_lt_of_le (by simp) hb2.size; clear hb2)
          | (go_at_call 51; refine HCd2.out.mono ?_; rintro e w3 ⟨b3, τ3, V3, rfl, R3, G3, hb3⟩; have HR3 := Lib.hid R3; have HG3 := Lib.hid G3; have HB3 := Lib.hid (HB2.out.trans (hb3.mono HB2.out.size)); have hd0 := (hb3.cell (p := ⟨w.heap.size, 0, none⟩) hlt2).trans hc0; clear R3 G3)
          | (go_at_call 60; refine (lits_any HR3.out HG3.out.ok.trail_le).mono ?_; rintro e w4 ⟨v4, rfl, ho4, hb4⟩; obtain ⟨A4, c4, rfl, hi4⟩ := own_IC ho4; have HB4 := Lib.hid (HB3.out.trans (hb4.mono HB3.out.size)); have he0 := (hb4.cell (p := ⟨w.heap.size, 0, none⟩) (Nat.lt_of_lt_of_le hlt2 hb3.size)).trans hd0; clear ho4 hb4 hi4))
        go_loopw [7, 28] (fun o i wr => ∃ n : Nat, n ≤ 2 * m ∧ i = .int .i64 n ∧ wr.ownsRow w.heap.size 3 1 o (ints .i64 (outL cs n)).length (ints .i64 (outL cs n)) ∧ Below w.heap.size w wr) (fun _ i _ => 2 * m - (intOf i).toNat)
        case atStart => exact ⟨0, Nat.zero_le _, rfl, own_nil _ _, by first | exact HB4.out | exact HB4.out.drewN _⟩
        case round =>
          obtain ⟨n, hn, rfl, hown, hbw⟩ := hrel
          have HW := Lib.hid hbw
          have hon := outL_len cs n
          by_cases hlt : n < 2 * m
          · have HS := Lib.hid (HAll.out n hlt)
            have HAt := Lib.hid (fun w' => at_any (n : Int) (by omega) (by omega) w')
            have hl := litAt_fm (i := (n : Int)) (by omega) (by omega)
            have hnd : decide (n < 2 * m) = true := decide_eq_true hlt
            generalize litAt (n : Int) = l at *
            generalize outL cs n = L at *
            obtain ⟨Ao, co, rfl⟩ := own_slice hown
            have HO := Lib.hid hown
            clear hown hl hbw
            go_wp2_with (first
              | (go_at_call 65; refine (HAt.out _).mono ?_; rintro e w' ⟨rfl, rfl⟩)
              | (at_builtin; refine wpList_append_own_at _ rfl (.tmp 41) (.tmp 43) 25 rfl w.heap.size 3 i3 (.int .i64 0) 1 8 Try.underlying25 Hi3.out.1 Hi3.out.2.1 Hi3.out.2.2.1 Hi3.out.2.2.2 rfl (by decide) _ _ _ rfl (HO.out.alloc _) ⟨wr.heap.size, 0, none⟩ 1 1 [.int .i64 l] rfl rfl (one_new _ _ rfl) (by simp [Value.oneCell']) ?_ ?_ ?_ ?_; (simp only [ints_len]; unfold maxLen; omega); (simp only [ints_len]; omega); (exact base_alloc HW.out.size _); intro v5 w5 hown5 hgrow5 hnil5 hat5; have HO5 := Lib.hid (row_snoc (x := l) hown5); have HW5 := Lib.hid (HW.out.trans (below_push _ hgrow5 HW.out.size (own_base HO.out))); clear hown5 hgrow5 hnil5 hat5))
            go_roundw
            case rel => exact ⟨n + 1, by omega, by go_num, by rw [HS.out]; exact HO5.out, HW5.out⟩
            case measure => simp [intOf]; omega
          · obtain rfl : n = 2 * m := by omega
            have hnd : decide (2 * m < 2 * m) = false := by simp
            go_wp2
            go_ret2
            exact ⟨_, rfl, hown, HW.out⟩
  · rw [if_neg hf]
    rw [Bool.eq_false_iff.2 hf] at HFm
    clear hC h8 h24 hHB hf
    go_enter Try.func31, Try.ntmps31
    go_wp2_with (go_at_call 64; refine HFm.out.mono ?_; rintro e w2 ⟨rfl, hb2⟩; have HB2 := Lib.hid (HB.out.trans (hb2.mono HB.out.size)); clear hb2)
    go_ret2
    exact ⟨_, rfl, own_nil _ _, HB2.out⟩

end Go.Proofs.Ythbccfgcemdgeaa.Spr
