/- Part of the proof of UnderHolds: what the law uses of the text UhC. -/
import Derived.Test.YtjhmkhbmjopmkaaGreatDoorZPUhD
namespace Go.Proofs.YtjhmkhbmjopmkaaGreatDoor.Uh
open Go.RowKit Go.Shelf Go.Maps Go.Proofs.YtjhmkhbmjopmkaaGreatDoor.Lit Go.Proofs.YtjhmkhbmjopmkaaGreatDoor.Spr Go.Proofs.YtjhmkhbmjopmkaaGreatDoor.P Go.Proofs.YtjhmkhbmjopmkaaGreatDoor.Rf Go.Proofs.YtjhmkhbmjopmkaaGreatDoor.Rfw Go.Proofs.YtjhmkhbmjopmkaaGreatDoorW.PrintWords
set_option linter.unusedVariables false
set_option linter.unusedSimpArgs false

theorem hrunR_cons (A : List (List Int)) (o : Bool) (d : Bool) (c : List Int) (t : List (Bool × List Int)) : hrunR A o ((d, c) :: t) = match hstepR A o d c with
    | none => false
    | some (A', o') => hrunR A' o' t := by rw [hrunR]; rfl
theorem ok_drop {A : List (List Int)} {N : Nat} (hok : RfOk A) (hN : A.length ≤ N) (o : Bool) (c : List Int) : (rDrop A o c).2.2.length ≤ N + 1 ∧ RfOk (rDrop A o c).2.2 := by
  obtain ⟨h1, h2⟩ := drop_ok (A := A) o c
  exact ⟨by omega, by have := hok.l; omega, fun x hx => hok.c8 x (h2 x hx), fun x hx => hok.f x (h2 x hx)⟩
theorem ok_add {A : List (List Int)} {N : Nat} (hok : RfOk A) (hN : A.length ≤ N) (hN2 : N + 1 ≤ 4194304) (o : Bool) (c : List Int) (hc : c.length ≤ 2097152) : (rAdd A o c).2.2.1.length ≤ N + 1 ∧ RfOk (rAdd A o c).2.2.1 := by
  obtain ⟨h1, h2⟩ := add_ok (A := A) o c
  refine ⟨by omega, by omega, fun x hx => ?_, fun x hx => ?_⟩
  · rcases h2 x hx with h | ⟨rfl, _⟩
    · exact hok.c8 x h
    · exact hc
  · rcases h2 x hx with h | ⟨rfl, h⟩
    · exact hok.f x h
    · exact List.all_eq_true.1 h

set_option maxHeartbeats 8000000 in
set_option maxRecDepth 100000 in
theorem rholds_any (v : Int) (A : Option Addr) (c0 : Nat) (cs : List (List Int)) (Af : Option Addr) (cf : Nat) (fl : List Int) (As : Option Addr) (cq : Nat) (l : List (Bool × List Int)) (w : World) (hC : Kd.C kL w A cs.length cs) (hc0 : cs.length ≤ c0) (hF : Kd.C kI w Af fl.length fl) (hcf : fl.length ≤ cf) (hS : SK w As l)
    (hl : cs.length ≤ 2097152) (h8 : ∀ c ∈ cs, c.length ≤ 2097152) (hfl : fl.length ≤ 2097152) (hll : l.length ≤ 2097152) (h82 : ∀ s ∈ l, s.2.length ≤ 2097152) :
    Calls Tryz.prog 8 #[.agg #[.int .i64 v, .slice A cs.length c0], .slice Af fl.length cf, .slice As l.length cq] w fun e w' => e = .returned (.bool (holdsW v cs fl l)) ∧ Below w.heap.size w w' := by
  obtain ⟨X, hX⟩ : ∃ X, w.alloc (Obj.cells #[.int .i64 v, .slice A cs.length c0] 24) = X := ⟨_, rfl⟩
  have hbX : Below w.heap.size w X := by rw [← hX]; exact (Below.refl _ _).alloc (Nat.le_refl _) _
  have hnX : X.heap[w.heap.size]? = some (Obj.cells #[.int .i64 v, .slice A cs.length c0] 24 (0, 0)) := by rw [← hX]; exact World.alloc_heap_new _ _
  obtain ⟨x1, x2, _⟩ := two_cells hnX
  have HN := Lib.hid (rnew_any v A c0 cs X (Kd.C_below hC hbX) hc0 hl h8)
  have HbX := Lib.hid hbX
  have s0 := hbX.size
  have HS := Lib.hid (fun k (hk : k < l.length) (w2 : World) (hb : Below w.heap.size w w2) => (hS.below hb) k hk)
  have H8 := Lib.hid (fun k (hk : k < l.length) => show (l.getD k (false, [])).2.length ≤ 2097152 from h82 _ (by rw [List.getD_eq_getElem?_getD, List.getElem?_eq_getElem hk]; exact List.getElem_mem _))
  have HDr := Lib.hid (fun k (hk : k < l.length) => drop_get (xs := l) (false, []) hk)
  have HEnd := Lib.hid (show l.drop l.length = [] from List.drop_length)
  have HF := Lib.hid (fun W (hb : Below w.heap.size w W) => Kd.C_below hF hb)
  have Hcs : Hid (formedB v cs = true → RfOk cs ∧ Rel (Fwd.newW cs) cs) := Lib.hid fun h => ⟨⟨by omega, h8, (formed_all h).2⟩, Rel.new cs (formed_all h).2⟩
  unfold RNewPost at HN
  clear hC hS h8 h82 hbX hnX hF
  subst hX
  unfold holdsW
  cases hp : formedB v cs with
  | false =>
    rw [hp] at HN
    simp only [Bool.false_eq_true, ↓reduceIte] at HN ⊢
    go_enter Tryz.func8, Tryz.ntmps8
    go_wp2_with (go_at_call 16; refine HN.out.mono ?_; rintro e w3 ⟨rfl, hb⟩; have HB3 := Lib.hid (HbX.out.trans (hb.mono HbX.out.size)); clear hb)
    go_ret
    exact ⟨rfl, HB3.out⟩
  | true =>
    rw [hp] at HN
    have HOk := Lib.hid (Hcs.out hp).1
    have HRl := Lib.hid (run_same l (Fwd.newW cs) cs (Hcs.out hp).2)
    simp only [↓reduceIte] at HN ⊢
    clear hp
    cases hs : fl.all fm with
    | false =>
      simp only [Bool.false_eq_true, ↓reduceIte]
      go_enter Tryz.func8, Tryz.ntmps8
      go_wp2_with (first
        | (go_at_call 16; refine HN.out.mono ?_; rintro e w3 ⟨b, rfl, hr⟩; have HB3 := Lib.hid (HbX.out.trans (hr.base.mono HbX.out.size)); clear hr)
        | (go_at_call 17; refine (rsound_any Af cf fl w3 (HF.out w3 HB3.out) hcf hfl).mono ?_; rintro e w4 ⟨rfl, hb4⟩; rw [hs]; have HB4 := Lib.hid (HB3.out.trans (hb4.mono HB3.out.size)); clear hb4))
      go_ret
      exact ⟨rfl, HB4.out⟩
    | true =>
      simp only [↓reduceIte]
      have Hs := Lib.hid hs
      clear hs
      by_cases h0 : l.length = 0
      · rw [if_pos h0]
        have h0i : (l.length : Int) = 0 := by omega
        go_enter Tryz.func8, Tryz.ntmps8
        go_wp2_with (first
          | (go_at_call 16; refine HN.out.mono ?_; rintro e w3 ⟨b, rfl, hr⟩; have HB3 := Lib.hid (HbX.out.trans (hr.base.mono HbX.out.size)); clear hr)
          | (go_at_call 17; refine (rsound_any Af cf fl w3 (HF.out w3 HB3.out) hcf hfl).mono ?_; rintro e w4 ⟨rfl, hb4⟩; rw [Hs.out]; have HB4 := Lib.hid (HB3.out.trans (hb4.mono HB3.out.size)); clear hb4))
        go_ret
        exact ⟨rfl, HB4.out⟩
      · rw [if_neg h0]
        have h0i : 0 < (l.length : Int) := by omega
        have h0n : ¬ ((l.length : Int) = 0) := by omega
        have hb0 : ((l.length : Int) == 0) = false := by rw [beq_eq_false_iff_ne]; exact h0n
        obtain ⟨res, hres⟩ : ∃ res, (if hrunW (Fwd.newW cs) l = true then lastB fl (l.getD (l.length - 1) (false, [])) else false) = res := ⟨_, rfl⟩
        rw [hres]
        have Hres := Lib.hid hres
        clear hres
        obtain ⟨hr0, hhr⟩ : ∃ r, hrunR cs false l = r := ⟨_, rfl⟩
        rw [HRl.out, hhr] at Hres
        have Hhr := Lib.hid hhr
        clear hhr HRl
        go_enter Tryz.func8, Tryz.ntmps8
        go_wp2_with (first
          | (go_at_call 16; refine HN.out.mono ?_; rintro e w3 ⟨b, rfl, hr⟩; have HB3 := Lib.hid (HbX.out.trans (hr.base.mono HbX.out.size)); have HI := Lib.hid hr; clear hr)
          | (go_at_call 17; refine (rsound_any Af cf fl w3 (HF.out w3 HB3.out) hcf hfl).mono ?_; rintro e w4 ⟨rfl, hb4⟩; rw [Hs.out]; have HI4 := Lib.hid (HI.out.step hb4); clear hb4))
        go_loopw [9] (fun i wr => ∃ (k : Nat) (A' : List (List Int)) (o' : Bool), k ≤ l.length ∧ i = .int .i64 k ∧ RfR (w.alloc (Obj.cells #[.int .i64 v, .slice A cs.length c0] 24)) (w.alloc (Obj.cells #[.int .i64 v, .slice A cs.length c0] 24)).heap.size b A' o' wr ∧ Hid (RfOk A') ∧ A'.length ≤ cs.length + k ∧ Hid (hrunR A' o' (l.drop k) = hr0)) (fun i _ => l.length - (intOf i).toNat)
        case atStart => exact ⟨0, cs, false, Nat.zero_le _, rfl, HI4.out, HOk, Nat.le_refl _, Hhr⟩
        case round =>
          obtain ⟨k, A', o', hk, rfl, hr, Hok, hlen, Hst⟩ := hrel
          have HRf := Lib.hid hr
          have HBr := Lib.hid (HbX.out.trans (hr.base.mono HbX.out.size))
          clear hr
          by_cases hlt : k < l.length
          · obtain ⟨ad, A1, c1, hA, hx, hy, hc1, hic⟩ := HS.out k hlt _ HBr.out
            subst hA
            have h8k := H8.out k hlt
            have Hst2 := Hst.out
            rw [HDr.out k hlt] at Hst2
            generalize l.getD k (false, []) = s at *
            obtain ⟨d, c⟩ := s
            dsimp only at *
            rw [hrunR_cons] at Hst2
            have HD := Lib.hid (rdrop_any _ _ b A' o' A1 c1 c wr HRf.out hic hc1 Hok.out h8k)
            have HA := Lib.hid (radd_any _ _ b A' o' A1 c1 c wr HRf.out hic hc1 Hok.out h8k)
            have Had := Lib.hid (ok_drop Hok.out hlen o' c)
            have Haa := Lib.hid (ok_add Hok.out hlen (by omega) o' c h8k)
            have Hst3 := Lib.hid Hst2
            clear Hst2 hic
            unfold hstepR at Hst3
            cases d with
            | true =>
              clear HA Haa
              simp only [↓reduceIte] at Hst3
              generalize rDrop A' o' c = r at *
              obtain ⟨r1, r2, r3⟩ := r
              dsimp only at *
              by_cases hr2 : r2 = 0
              · subst hr2
                by_cases hr1 : r1 = 0
                · subst hr1
                  have Hf : Hid (res = false) := Lib.hid (by have h1 := Hst3.out; have h2 := Hres.out; rw [if_pos rfl, if_pos rfl] at h1; rw [← h2, if_neg (by rw [← h1]; exact Bool.false_ne_true)])
                  go_wp2_with (go_at_call 18; refine HD.out.mono ?_; rintro e w6 ⟨rfl, hr6⟩; have HB6 := Lib.hid (HbX.out.trans (hr6.base.mono HbX.out.size)); clear hr6)
                  go_ret
                  exact ⟨by rw [Hf.out]; rfl, HB6.out⟩
                · have HG : Hid (hrunR r3 o' (l.drop (k + 1)) = hr0) := Lib.hid (by have h1 := Hst3.out; rw [if_pos rfl, if_neg hr1] at h1; exact h1)
                  go_wp2_with (go_at_call 18; refine HD.out.mono ?_; rintro e w6 ⟨rfl, hr6⟩; have HI6 := Lib.hid hr6; clear hr6)
                  go_roundw
                  case rel => exact ⟨k + 1, r3, o', by omega, by go_num, HI6.out, Lib.hid Had.out.2, by have := Had.out.1; omega, HG⟩
                  case measure => simp [intOf]; omega
              · have Hf : Hid (res = false) := Lib.hid (by have h1 := Hst3.out; have h2 := Hres.out; rw [if_neg hr2] at h1; rw [← h2, if_neg (by rw [← h1]; exact Bool.false_ne_true)])
                go_wp2_with (go_at_call 18; refine HD.out.mono ?_; rintro e w6 ⟨rfl, hr6⟩; have HB6 := Lib.hid (HbX.out.trans (hr6.base.mono HbX.out.size)); clear hr6)
                go_ret
                exact ⟨by rw [Hf.out]; rfl, HB6.out⟩
            | false =>
              clear HD Had
              simp only [Bool.false_eq_true, ↓reduceIte] at Hst3
              generalize rAdd A' o' c = r at *
              obtain ⟨r1, r2, r3, r4⟩ := r
              dsimp only at *
              by_cases hr2 : r2 = 0
              · subst hr2
                by_cases hr1 : r1 = 1
                · subst hr1
                  have HG : Hid (hrunR r3 r4 (l.drop (k + 1)) = hr0) := Lib.hid (by have h1 := Hst3.out; rw [if_pos rfl, if_pos rfl] at h1; exact h1)
                  go_wp2_with (go_at_call 19; refine HA.out.mono ?_; rintro e w6 ⟨rfl, hr6⟩; have HI6 := Lib.hid hr6; clear hr6)
                  go_roundw
                  case rel => exact ⟨k + 1, r3, r4, by omega, by go_num, HI6.out, Lib.hid Haa.out.2, by have := Haa.out.1; omega, HG⟩
                  case measure => simp [intOf]; omega
                · have Hf : Hid (res = false) := Lib.hid (by have h1 := Hst3.out; have h2 := Hres.out; rw [if_pos rfl, if_neg hr1] at h1; rw [← h2, if_neg (by rw [← h1]; exact Bool.false_ne_true)])
                  go_wp2_with (go_at_call 19; refine HA.out.mono ?_; rintro e w6 ⟨rfl, hr6⟩; have HB6 := Lib.hid (HbX.out.trans (hr6.base.mono HbX.out.size)); clear hr6)
                  go_ret
                  exact ⟨by rw [Hf.out]; rfl, HB6.out⟩
              · have Hf : Hid (res = false) := Lib.hid (by have h1 := Hst3.out; have h2 := Hres.out; rw [if_neg hr2] at h1; rw [← h2, if_neg (by rw [← h1]; exact Bool.false_ne_true)])
                go_wp2_with (go_at_call 19; refine HA.out.mono ?_; rintro e w6 ⟨rfl, hr6⟩; have HB6 := Lib.hid (HbX.out.trans (hr6.base.mono HbX.out.size)); clear hr6)
                go_ret
                exact ⟨by rw [Hf.out]; rfl, HB6.out⟩
          · obtain rfl : k = l.length := by omega
            have Hyes : Hid (hr0 = true) := Lib.hid (by have h1 := Hst.out; rw [HEnd.out] at h1; exact h1.symm)
            obtain ⟨ad, A1, c1, hA, hx, hy, hc1, hic⟩ := HS.out (l.length - 1) (by omega) _ HBr.out
            subst hA
            have h8k := H8.out (l.length - 1) (by omega)
            have hi1 : ((l.length : Int) - 1).toNat = l.length - 1 := by omega
            have hi0 : 0 ≤ (l.length : Int) - 1 := by omega
            have hi2 : (l.length : Int) - 1 < l.length := by omega
            have Hr := Lib.hid Hres.out
            rw [Hyes.out, if_pos rfl] at Hr
            generalize l.getD (l.length - 1) (false, []) = s at *
            obtain ⟨d, c⟩ := s
            dsimp only at *
            unfold lastB at Hr
            dsimp only at Hr
            have hV : Below wr.heap.size wr (wr.alloc (Obj.cells #[.bool d, .slice A1 c.length c1] 32)) := (Below.refl _ _).alloc (Nat.le_refl _) _
            have hnV : (wr.alloc (Obj.cells #[.bool d, .slice A1 c.length c1] 32)).heap[wr.heap.size]? = some (Obj.cells #[.bool d, .slice A1 c.length c1] 32 (0, 0)) := World.alloc_heap_new _ _
            have hlV : wr.heap.size < (wr.alloc (Obj.cells #[.bool d, .slice A1 c.length c1] 32)).heap.size := by simp
            have HcV := Lib.hid (fun W (hb : Below (wr.alloc (Obj.cells #[.bool d, .slice A1 c.length c1] 32)).heap.size (wr.alloc (Obj.cells #[.bool d, .slice A1 c.length c1] 32)) W) => two_cells ((hb.block _ hlV).trans hnV))
            have HwV := Lib.hid (fun W (hb : Below (wr.alloc (Obj.cells #[.bool d, .slice A1 c.length c1] 32)).heap.size (wr.alloc (Obj.cells #[.bool d, .slice A1 c.length c1] 32)) W) => HBr.out.trans ((hV.trans (hb.mono hV.size)).mono HBr.out.size))
            have HiC := Lib.hid (fun W (hb : Below (wr.alloc (Obj.cells #[.bool d, .slice A1 c.length c1] 32)).heap.size (wr.alloc (Obj.cells #[.bool d, .slice A1 c.length c1] 32)) W) => Kd.C_below hic (hV.trans (hb.mono hV.size)))
            have hvd := ((Below.refl (wr.alloc (Obj.cells #[.bool d, .slice A1 c.length c1] 32)).heap.size (wr.alloc (Obj.cells #[.bool d, .slice A1 c.length c1] 32))).drew)
            obtain ⟨v1, v2, _⟩ := HcV.out _ hvd
            have HBan := Lib.hid (rban_any Af cf fl (wr.alloc (Obj.cells #[.bool d, .slice A1 c.length c1] 32)).drew (HF.out _ (HwV.out _ hvd)) hcf (List.all_eq_true.1 Hs.out) hfl)
            have Hvd := Lib.hid hvd
            clear hV hnV hvd hic
            cases d with
            | true =>
              have Hf : Hid (res = false) := Lib.hid (by rw [← Hr.out]; rfl)
              go_wp2
              go_region
              all_goals
                go_wp2
                go_ret
                exact ⟨by rw [Hf.out]; rfl, HwV.out _ Hvd.out⟩
            | false =>
              have Hf : Hid (res = sameB c (negL fl)) := Lib.hid (by rw [← Hr.out]; rfl)
              have hnl : (negL fl).length ≤ 2097152 := by rw [negL_len]; exact hfl
              generalize hng : negL fl = ng at *
              clear hng
              go_wp2
              go_region_with (first
                | (go_at_call 21; refine HBan.out.mono ?_; rintro e w5 ⟨A5, c5, rfl, hc5, hC5, hB5⟩; have HB5 := Lib.hid (Hvd.out.trans (hB5.mono Hvd.out.size)); obtain ⟨q1, q2, _⟩ := HcV.out w5 HB5.out; have HI5 := Lib.hid hC5; have HIc5 := Lib.hid (HiC.out w5 HB5.out); clear hB5 hC5)
                | (go_at_call 20; refine (rsame_all A1 c1 c A5 c5 ng w5 HIc5.out hc1 HI5.out hc5 h8k hnl).mono ?_; rintro e w6 ⟨rfl, hB6⟩; have HB6 := Lib.hid (HB5.out.trans (hB6.mono HB5.out.size)); clear hB6))
              all_goals
                go_wp2
                go_ret
                exact ⟨by rw [Hf.out]; rfl, HwV.out _ HB6.out⟩

end Go.Proofs.YtjhmkhbmjopmkaaGreatDoor.Uh
