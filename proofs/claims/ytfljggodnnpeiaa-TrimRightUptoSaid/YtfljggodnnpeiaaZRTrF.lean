/- Part of the proof of TrimRight: what the law uses of the text TrF. -/
import Derived.Test.YtfljggodnnpeiaaZRTrB
import Derived.Test.YtfljggodnnpeiaaZRTrE
import Derived.Test.YtfljggodnnpeiaaZRJWithout
namespace Go.Proofs.Ytfljggodnnpeiaa.Trm.Wo
open Go.RowKit Go.Maps Go.Proofs.Ytfljggodnnpeiaa.Lit Go.Proofs.Ytfljggodnnpeiaa.Spr
open Go.Proofs.YtfljggodnnpeiaaW.PrintWords hiding own_slice own_base own_lt own_move
set_option linter.unusedVariables false
set_option linter.unusedSimpArgs false

theorem own_slice_i {w : World} {B : Nat} {v : Value} {xs : List Int} (h : w.ownsRow B 3 1 v (ints .i64 xs).length (ints .i64 xs)) : ∃ A c, v = .slice A xs.length c := by
  obtain ⟨A, c, h⟩ := own_slice h
  rw [ints_len] at h
  exact ⟨A, c, h⟩
theorem news_drop {all : List (List Int)} {inn : List Bool} {lean : List (List Int)} {x n a : Nat} {news : List (Nat × List Int)} {r : Option (List (Nat × List Int))} (h : newsF all inn lean x (n - a) a news = r) (ha : a < n) :
    (if leans inn lean x a = true then (if (folR all inn a).2 = true then newsF all inn lean x (n - (a + 1)) (a + 1) (news ++ [(a, (folR all inn a).1)]) else none) else newsF all inn lean x (n - (a + 1)) (a + 1) news) = r := by
  rw [show n - a = (n - (a + 1)) + 1 by omega] at h
  exact h
def WoPost (w : World) (τ : Nat → Nat) (B b : Nat) (K : KSt) (o : Option KSt) (e : Ending) (w' : World) : Prop := e = .returned (.bool o.isSome) ∧ KLedS w τ B b (o.getD K) w'
theorem inn_back {inn : List Bool} {x : Nat} (h : inn.getD x false = true) : (inn.set x false).set x true = inn := by
  have hx : x < inn.length := by
    by_cases hx : x < inn.length
    · exact hx
    · rw [List.getD_eq_getElem?_getD, List.getElem?_eq_none (by omega)] at h; cases h
  rw [List.set_set]
  refine List.ext_getElem (by simp) fun i h1 h2 => ?_
  rw [List.getElem_set]
  split
  · rename_i e
    subst e
    rw [List.getD_eq_getElem?_getD, List.getElem?_eq_getElem hx] at h
    exact h.symm
  · rfl

set_option maxHeartbeats 8000000 in
set_option maxRecDepth 100000 in
theorem without_any {w : World} {B b : Nat} {τ : Nat → Nat} {V : KV} {K : KSt} (R : KRep w B b τ V K) (h : KOk K) (x : Nat) (hx : x < K.all.length) (hin : K.inn.getD x false = true) :
    Calls Try.prog 135 #[.pointer (some ⟨b, 0, none⟩), .int .i64 x] w (WoPost w τ B b K (withoutR K x)) := by
  have gN := h.ft.n
  obtain ⟨ga, ca, gi, ci, gl, cl, f⟩ := R.form (by omega)
  have c0 := f.c0
  have c2 := f.c2
  have fb2 := f.fb 2
  have xi := f.xi x hx
  have fi := f.fi x
  have hmm := @run_makeMap Try.prog
  have HK := Lib.hid h
  have HR1 := Lib.hid (R.put_inn f x false)
  have HB1 := Lib.hid ((Below.refl B w).setCell (p := ⟨gi, x, none⟩) f.bi (.bool false))
  have HS0 := Lib.hid (show Stay w (w.setCell ⟨gi, x, none⟩ (.bool false)) τ τ (fun s => s ≠ 2 ∧ s ≠ 3) from (Stay.refl w τ _).setCell _ _ (fun _ h => h.1 f.ti))
  have HN0 := Lib.hid (NewsR.init (R.put_inn f x false) ((Below.refl B w).setCell (p := ⟨gi, x, none⟩) f.bi (.bool false)) HS0.out)
  have hnb := f.nib
  have hnb2 := f.nib.symm
  have HIn := Lib.hid hin
  have hgr : withoutR K x = (newsF K.all (K.inn.set x false) K.lean x (K.all.length - max (x + 1) K.given) (max (x + 1) K.given) []).map fun news => { K with inn := K.inn.set x false, lean := putNews K.lean news } := rfl
  have hsz : (w.setCell ⟨gi, x, none⟩ (.bool false)).heap.size = w.heap.size := by simp
  rw [hsz] at HN0
  have hbl := R.lt
  have hbl2 : ¬ (b = w.heap.size) := by omega
  generalize withoutR K x = o at *
  have HO := Lib.hid hgr
  clear R h f hgr hsz
  obtain ⟨given, all, inn, lean⟩ := K
  dsimp only at *
  generalize hN : all.length = N at *
  have HN := Lib.hid hN
  clear hN hin
  have hgv : given < N := by rw [← HN.out]; exact HK.out.gv
  go_enter Try.func135, Try.ntmps135
  go_wp2
  obtain ⟨a0, ha0⟩ : ∃ a0 : Nat, max (x + 1) given = a0 := ⟨_, rfl⟩
  have hmax : max ((x : Int) + 1) (given : Int) = (a0 : Int) := by omega
  rw [hmax]
  rw [ha0] at HO
  have ha1 : x + 1 ≤ a0 ∧ given ≤ a0 ∧ a0 ≤ N := by omega
  clear hmax ha0
  go_loopw [6] (fun s wr => ∃ (a : Nat) (news : List (Nat × List Int)), a0 ≤ a ∧ a ≤ N ∧ s = .int .i64 a ∧ NewsR w τ B b w.heap.size ⟨given, all, inn.set x false, lean⟩ news wr ∧ Hid ((∀ p ∈ news, p.1 < a) ∧ news.length ≤ a ∧ newsF all (inn.set x false) lean x (N - a) a news = newsF all (inn.set x false) lean x (N - a0) a0 [])) (fun s _ => N - (intOf s).toNat)
  case atStart => exact ⟨a0, [], Nat.le_refl _, ha1.2.2, rfl, HN0.out, Lib.hid ⟨by simp, by simp, rfl⟩⟩
  case round =>
    obtain ⟨a, news, hlo, hhi, rfl, hnr, hH⟩ := hrel
    have HNr := Lib.hid hnr
    obtain ⟨τ1, V1, D, vs, R1, hm, htm, hBm, hNI, hrr, hb1, h01, hs1⟩ := hnr
    obtain ⟨ga1, ca1, gi1, ci1, gl1, cl1, f1⟩ := R1.form (by show 0 < all.length; rw [HN.out]; omega)
    have e0 := f1.c0
    have e1 := f1.c1
    have e2 := f1.c2
    have e3 := f1.c3
    dsimp only at e0 e1 e2 e3
    rw [HN.out] at e1 e2 e3
    have H1 := Lib.hid (And.intro R1 (And.intro hm (And.intro htm (And.intro hBm (And.intro hNI (And.intro hrr (And.intro hb1 (And.intro h01 hs1))))))))
    have HF := Lib.hid f1
    clear R1 hm htm hBm hNI hrr hb1 h01 hs1
    by_cases hlt : a < N
    · have ya := f1.xi a (by show a < all.length; rw [HN.out]; exact hlt)
      obtain ⟨AL, cL, hvL, xL, hicL⟩ := f1.xl a (by show a < all.length; rw [HN.out]; exact hlt)
      have hxi := f1.xi x (by show x < all.length; rw [HN.out]; omega)
      have hfi := f1.fi x
      dsimp only at ya xL hicL hxi
      have hle : a < lean.length := by have h1 : lean.length = all.length := H1.out.1.le; rw [h1, HN.out]; omega
      have hrl := (H1.out.1.lr _ _ _ hvL (show lean[a]? = some (lean.getD a []) by rw [List.getD_eq_getElem?_getD, List.getElem?_eq_getElem hle]; rfl)).le
      rw [ints_len] at hrl
      have HIc := Lib.hid hicL
      have HCt := Lib.hid (contains_of AL cL (lean.getD a []) x wr hicL hrl)
      have HNd := Lib.hid (news_drop hH.out.2.2 hlt)
      have HP := Lib.hid (And.intro hH.out.1 hH.out.2.1)
      have hls : leans (inn.set x false) lean x a = ((inn.set x false).getD a false && (lean.getD a []).contains (x : Int)) := rfl
      have hai : (a : Int) < N := by omega
      clear f1 hvL hicL hle hH
      generalize lean.getD a [] = row at *
      cases hia : (inn.set x false).getD a false with
      | false =>
        rw [hia] at ya
        have HNx := Lib.hid (show newsF all (inn.set x false) lean x (N - (a + 1)) (a + 1) news = newsF all (inn.set x false) lean x (N - a0) a0 [] from (if_neg (by rw [hls, hia]; simp)).symm.trans HNd.out)
        clear hia hls hrl
        go_wp2
        go_roundw
        case rel => exact ⟨a + 1, news, by omega, by omega, by go_num, HNr.out, Lib.hid ⟨fun p hp => Nat.lt_succ_of_lt (HP.out.1 p hp), Nat.le_succ_of_le HP.out.2, HNx.out⟩⟩
        case measure => simp [intOf]; omega
      | true =>
        rw [hia] at ya
        cases hct : row.contains (x : Int) with
        | false =>
          have HNx := Lib.hid (show newsF all (inn.set x false) lean x (N - (a + 1)) (a + 1) news = newsF all (inn.set x false) lean x (N - a0) a0 [] from (if_neg (by rw [hls, hia, hct]; simp)).symm.trans HNd.out)
          rw [hct] at HCt
          clear hia hls hct
          go_wp2_with (first
            | (go_at_call 125; refine HCt.out.mono ?_; rintro e w' ⟨rfl, rfl⟩))
          go_roundw
          case rel => exact ⟨a + 1, news, by omega, by omega, by go_num, HNr.out, Lib.hid ⟨fun p hp => Nat.lt_succ_of_lt (HP.out.1 p hp), Nat.le_succ_of_le HP.out.2, HNx.out⟩⟩
          case measure => simp [intOf]; omega
        | true =>
          have HNx := Lib.hid ((if_pos (show leans (inn.set x false) lean x a = true by rw [hls, hia, hct]; rfl)).symm.trans HNd.out)
          rw [hct] at HCt
          clear hia hls hct
          have hfo := follows_any H1.out.1 HK.out.ft a (by show a < all.length; rw [HN.out]; exact hlt)
          unfold FolPost at hfo
          dsimp only at hfo
          obtain ⟨rl, hrl2⟩ : ∃ rl, folR all (inn.set x false) a = rl := ⟨_, rfl⟩
          rw [hrl2] at hfo HNx
          obtain ⟨xs, ok⟩ := rl
          have HFo := Lib.hid hfo
          clear hfo hrl2
          cases ok with
          | false =>
            have HE := Lib.hid (show o = none by
              have h3 := (if_neg (show ¬ ((xs, false) : List Int × Bool).2 = true from Bool.false_ne_true)).symm.trans HNx.out
              rw [HO.out, ← h3]; rfl)
            go_wp2_with (first
              | (go_at_call 125; refine HCt.out.mono ?_; rintro e w' ⟨rfl, rfl⟩)
              | (go_at_call 133; refine HFo.out.mono ?_; rintro e w2 ⟨v2, rfl, ho2, hb2⟩; have HB2 := Lib.hid hb2; replace e2 := (hb2.cell (p := ⟨b, 2, none⟩) H1.out.1.lt).trans e2; replace hxi := (hb2.cell (p := ⟨gi1, x, none⟩) HF.out.li).trans hxi; replace hfi := (hb2.frozen (p := ⟨gi1, x, none⟩) HF.out.li).trans hfi; clear ho2 hb2))
            go_ret
            rw [HE.out]
            have R2 := H1.out.1.below HB2.out
            obtain ⟨ga2, ca2, gi2, ci2, gl2, cl2, f2⟩ := R2.form (by show 0 < all.length; rw [HN.out]; omega)
            have egi : gi2 = gi1 := by have h1 := f2.vi; rw [HF.out.vi] at h1; injection h1 with h1; injection h1 with h1; injection h1 with h1; exact h1.symm
            subst egi
            have R3 := R2.put_inn f2 x true
            dsimp only at R3
            rw [inn_back HIn.out] at R3
            exact ⟨rfl, _, _, R3, (H1.out.2.2.2.2.2.2.1.trans (HB2.out.mono H1.out.1.base)).setCell (p := ⟨gi2, x, none⟩) HF.out.bi _, (H1.out.2.2.2.2.2.2.2.2.trans ⟨HB2.out.size, fun _ _ => rfl, fun k hk _ => HB2.out.block k hk⟩).setCell _ _ (fun hk h => h.1 ((H1.out.2.2.2.2.2.2.2.2.tag _ hk).symm.trans HF.out.ti))⟩
          | true =>
            have HNy := Lib.hid ((if_pos (show ((xs, true) : List Int × Bool).2 = true from rfl)).symm.trans HNx.out)
            have HM2 := Lib.hid (fun (w2 : World) (hb2 : Below wr.heap.size wr w2) => (HNr.out.below hb2))
            have hkey := keyOf_int_mk (P := Try.prog) Try.underlying3 (a := (a : Int)) (WalkArith.wf_i64 (by omega))
            have HKey := Lib.hid hkey
            have HMm := Lib.hid (fun (w2 : World) (hb2 : Below wr.heap.size wr w2) => show w2.ownsMap Try.prog 3 RS w.heap.size news.length D from by
              have hlt := H1.out.2.1.lt
              obtain ⟨es, clock, h1, r⟩ := H1.out.2.1
              exact ⟨es, clock, (hb2.block _ hlt).trans h1, r⟩)
            have hnl : news.length ≤ 4194304 := by have := HP.out.2; omega
            clear hkey
            go_wp2_with (first
              | (go_at_call 125; refine HCt.out.mono ?_; rintro e w' ⟨rfl, rfl⟩)
              | (go_at_call 133; refine HFo.out.mono ?_; rintro e w2 ⟨v2, rfl, ho2, hb2⟩; obtain ⟨A2, k2, rfl⟩ := own_slice_i ho2; have HO2 := Lib.hid ho2; have HB2 := Lib.hid hb2; have HM3 := Lib.hid (HMm.out w2 hb2); clear ho2 hb2)
              | (at_mapUpdate; refine wpList_mapUpdate_own _ rfl _ _ _ 165 rfl 3 25 law3 Try.underlying165 RS w.heap.size _ D rfl HM3.out (by unfold maxLen; omega) _ _ _ rfl rfl HKey.out _ [] (RS_slice _ _ _) ?_; intro w5 hown5 hgrow5; have HM5 := Lib.hid hown5; have HG5 := Lib.hid hgrow5; clear hown5 hgrow5))
            go_roundw
            case rel => exact ⟨a + 1, news ++ [(a, xs)], by omega, by omega, by go_num, NewsR.put H1.out.1 H1.out.2.1 H1.out.2.2.1 H1.out.2.2.2.1 H1.out.2.2.2.2.1 H1.out.2.2.2.2.2.1 H1.out.2.2.2.2.2.2.1 H1.out.2.2.2.2.2.2.2.1 H1.out.2.2.2.2.2.2.2.2 HB2.out HO2.out HP.out.1 HM5.out HG5.out, Lib.hid ⟨fun p hp => by
              rcases List.mem_append.1 hp with hp | hp
              · exact Nat.lt_succ_of_lt (HP.out.1 p hp)
              · rw [List.mem_singleton] at hp; rw [hp]; exact Nat.lt_succ_self _, by rw [List.length_append, List.length_singleton]; have := HP.out.2; omega, HNy.out⟩⟩
            case measure => simp [intOf]; omega
    · obtain rfl : a = N := by omega
      have hn2 := hH.out.2.2
      rw [Nat.sub_self] at hn2
      have HE := Lib.hid (show o = some ⟨given, all, inn.set x false, putNews lean news⟩ by rw [HO.out, ← hn2]; rfl)
      obtain ⟨t, ht, hpw, htr, -⟩ := newsF_all _ _ _ _ _ _ _ _ hn2.symm
      rw [List.nil_append] at ht
      obtain rfl : t = news := ht.symm
      have HPn := Lib.hid (And.intro hpw (fun (p : Nat × List Int) (hp : p ∈ t) => show p.1 < a from by have := (htr p hp).2.1; omega))
      have hkl : lean.length = all.length := H1.out.1.le
      have HKl := Lib.hid hkl
      obtain ⟨wo, rfl⟩ : ∃ wo : World, wo = wr := ⟨_, rfl⟩
      clear f1 hn2 hpw htr hkl hH hlt
      go_wp2_with (first
        | (at_range; refine wpList_range_own _ rfl _ 165 rfl 3 25 law3 Try.underlying165 RS w.heap.size _ D rfl H1.out.2.1 ?_; intro w0 hrg0 hg0 hs0; have HRg := Lib.hid (BackR.start H1.out.1 H1.out.2.2.1 H1.out.2.1.lt H1.out.2.2.2.2.1 H1.out.2.2.2.2.2.1 H1.out.2.2.2.2.2.2.1 H1.out.2.2.2.2.2.2.2.2 (fun p hp => by show p.1 < lean.length; rw [HKl.out, HN.out]; exact HPn.out.2 p hp) HPn.out.1 hrg0 hg0); clear hrg0 hg0 hs0))
      try go_frame
      go_loopg [9, 10] (Maps.size D) (fun cnt s9 s10 wx => BackR w τ B b w.heap.size wo.heap.size ⟨given, all, inn.set x false, lean⟩ t t.length cnt wx)
      case atStart => exact HRg.out
      case round =>
        obtain ⟨τ2, V2, D2, vs2, left, ln, R2, hrg, ht2, htr2, hI2, hr2, hb2, hBr, hl1, hl2, h02, hs2⟩ := hrel
        have H2 := Lib.hid (And.intro R2 (And.intro ht2 (And.intro htr2 (And.intro hI2 (And.intro hr2 (And.intro hb2 (And.intro hBr (And.intro hl1 (And.intro hl2 (And.intro h02 hs2))))))))))
        have h3 := cell_of_row wr b 3 _ _ _ R2.blk
        have HRg2 := Lib.hid hrg
        clear R2 ht2 htr2 hI2 hr2 hb2 hBr hl1 hl2 hrg h02 hs2
        go_wp2_with (first
          | (at_next; refine wpList_next_ranges _ rfl _ rfl 3 law3 RS (Value.int .i64) (fun q : Option Addr × Nat × Nat => Value.slice q.1 q.2.1 q.2.2) (fun key kl hk => by obtain ⟨x, hx, _⟩ := Maps.keyOf_int_inv Try.underlying3 hk; exact ⟨x, hx⟩) RS_inv w.heap.size wo.heap.size _ _ _ _ rfl HRg2.out ?_ ?_))
        · intro hc0 hl0
          have HD := Lib.hid (BackR.done (K := ⟨given, all, inn.set x false, lean⟩) H2.out.1 H2.out.2.2.2.2.2.1 H2.out.2.2.2.2.2.2.2.2.2.2 H2.out.2.2.2.2.2.2.2.1 HKl.out hl0)
          clear hl0
          go_wp2
          go_ret
          rw [HE.out]
          exact ⟨rfl, HD.out⟩
        · intro x2 A n c kl yd yp w2 cnt2 hkey hlk hv hat hrg2 hlt2 hg2 hs2 hen
          obtain ⟨x3, ex, rfl, _⟩ := Maps.keyOf_int_inv Try.underlying3 hkey
          cases ex
          have hv2 := (RS_slice A n c).symm.trans hv
          injection hv2 with hv2
          injection hv2 with hv2 _
          subst hv2
          obtain ⟨y, hy, hyl, ga2, ca2, gi2, ci2, gl2, cl2, f2, hst⟩ := BackR.step (K := ⟨given, all, inn.set x false, lean⟩) H2.out.1 H2.out.2.1 H2.out.2.2.1 H2.out.2.2.2.1 H2.out.2.2.2.2.1 H2.out.2.2.2.2.2.1 H2.out.2.2.2.2.2.2.1 H2.out.2.2.2.2.2.2.2.1 H2.out.2.2.2.2.2.2.2.2.1 H2.out.2.2.2.2.2.2.2.2.2.1 H2.out.2.2.2.2.2.2.2.2.2.2 (fun p hp => by show p.1 < all.length; rw [HN.out]; exact HPn.out.2 p hp) HKl.out HPn.out.1 hlk hat hrg2 hg2
          subst hy
          have HSt := Lib.hid hst
          have hy2 : (y : Int) < a := by have h9 : y < all.length := hyl; rw [HN.out] at h9; omega
          have k3 := f2.c3
          obtain ⟨Al, cL, -, xgl, -⟩ := f2.xl y hyl
          have fgl := f2.fl y
          dsimp only at k3 xgl
          rw [HN.out] at k3
          clear hst hyl f2 hkey hv hat hrg2 hg2 hlk hs2
          go_wp2
          go_roundg cnt2
          case measure => exact hlt2
          case rel => exact HSt.out
end Go.Proofs.Ytfljggodnnpeiaa.Trm.Wo
