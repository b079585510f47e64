/- Part of the proof of TrimRight: what the law uses of the text TrD. -/
import Derived.Test.YtfljggodnnpeiaaZRTrB
import Derived.Test.YtfljggodnnpeiaaZRTrC
namespace Go.Proofs.Ytfljggodnnpeiaa.Trm
open Go.RowKit Go.Maps Go.Proofs.Ytfljggodnnpeiaa.Lit Go.Proofs.Ytfljggodnnpeiaa.Spr
open Go.Proofs.YtfljggodnnpeiaaW.PrintWords hiding own_slice own_base own_lt own_move
set_option linter.unusedVariables false
set_option linter.unusedSimpArgs false

theorem good_drop {all : List (List Int)} {inn : List Bool} {n a : Nat} {lean : List (List Int)} {r : Option (List (List Int))} (h : goodF all inn (n - a) a lean = r) (ha : a < n) : (if (folR all inn a).2 = true then goodF all inn (n - (a + 1)) (a + 1) (lean.set a (folR all inn a).1) else none) = r := by
  rw [show n - a = (n - (a + 1)) + 1 by omega] at h
  exact h
theorem add_block (ad : Addr) (j : Nat) : (ad.add j).block = ad.block := by unfold Addr.add; split <;> rfl
theorem cell_congr {w w1 : World} {a : Addr} (h : w1.heap[a.block]? = w.heap[a.block]?) : w1.cell? a = w.cell? a := by simp only [World.cell?, h]
theorem infoB : (Try.prog.info? 4).map (fun i => (i.zero, i.size, i.bytes)) = some (some (.bool false), 1, 1) := by kernel_rfl
theorem bls_set (xs : List Bool) (i : Nat) (b : Bool) : (bls xs).set i (.bool b) = bls (xs.set i b) := by unfold bls; rw [List.map_set]
theorem mark_take {need : List Bool} {ns : List Int} {j : Nat} (h : j < ns.length) : markL need (ns.take (j + 1)) = (markL need (ns.take j)).set (ns.getD j 0).toNat true := by
  unfold markL
  rw [List.take_succ_eq_append_getElem h, List.foldl_append, List.getD_eq_getElem?_getD, List.getElem?_eq_getElem h]; rfl

theorem own_slice_i {w : World} {B : Nat} {v : Value} {xs : List Int} (h : w.ownsRow B 3 1 v (ints .i64 xs).length (ints .i64 xs)) : ∃ A c, v = .slice A xs.length c := by
  obtain ⟨A, c, h⟩ := own_slice h
  rw [ints_len] at h
  exact ⟨A, c, h⟩
theorem made_bools (n : Nat) : (madeCells (Value.bool false).cells (n * 1)).toList = bls (List.replicate n false) := by
  show (madeCells #[Value.bool false] (n * 1)).toList = _
  refine List.ext_getElem (by simp [madeCells, bls]) fun i h1 h2 => ?_
  simp [madeCells, Nat.mod_one, bls]
structure NeedR (w : World) (B b : Nat) (K : KSt) (gn cn : Nat) (need : List Bool) (wr : World) : Prop where
  ex : ∃ τ V, KRep wr B b τ V K ∧ Row wr B τ 5 4 (.slice (some ⟨gn, 0, none⟩) K.all.length cn) (bls need) ∧ τ gn = 5
  len : need.length = K.all.length
  bel : Below B w wr
theorem NeedR.init {w w1 w2 : World} {B b : Nat} {K : KSt} (h : KLed w B b K w1) (ho : w2.ownsRow w1.heap.size 4 1 (.slice (some ⟨w1.heap.size, 0, none⟩) K.all.length K.all.length) K.all.length (bls (List.replicate K.all.length false))) (hg : w1.grownBy w2 none) : NeedR w B b K w1.heap.size K.all.length (List.replicate K.all.length false) w2 := by
  obtain ⟨τ, V, R, hb⟩ := h
  have hbb : Below w1.heap.size w1 w2 := (Below.refl _ _).grown hg (Nat.le_refl _) (fun k hk => by cases hk)
  refine ⟨⟨_, V, R.stay (stay_below hbb τ 5), ⟨?_, fun k hk => retag_new (own_base ho k hk)⟩, retag_new (Nat.le_refl _)⟩, by simp, hb.trans (hbb.mono R.base)⟩
  rw [bls_len, List.length_replicate]
  exact Spr.own_lower ho R.base
theorem NeedR.set {w : World} {B b : Nat} {K : KSt} {gn cn : Nat} {need : List Bool} {wr : World} (h : NeedR w B b K gn cn need wr) (i : Nat) : NeedR w B b K gn cn (need.set i true) (wr.setCell ⟨gn, i, none⟩ (.bool true)) := by
  obtain ⟨⟨τ, V, R, hr, ht⟩, hl, hb⟩ := h
  have hs : Stay wr (wr.setCell ⟨gn, i, none⟩ (.bool true)) τ τ (fun s => s ≠ 5) := (Stay.refl wr τ _).setCell _ _ (fun _ h => h ht)
  refine ⟨⟨τ, V, R.stayT hs (fun s h => by omega), ⟨?_, hr.tag⟩, ht⟩, by rw [List.length_set]; exact hl, hb.setCell (p := ⟨gn, i, none⟩) (own_base hr.own gn (by simp [Value.ownBlock])) _⟩
  have := own_putV hr.own rfl i (.bool true)
  rw [bls_set] at this
  exact this
theorem NeedR.cell {w : World} {B b : Nat} {K : KSt} {gn cn : Nat} {need : List Bool} {wr : World} (h : NeedR w B b K gn cn need wr) (i : Nat) (hi : i < K.all.length) : wr.cell? ⟨gn, i, none⟩ = some (.bool (need.getD i false)) ∧ wr.frozen? ⟨gn, i, none⟩ = false := by
  obtain ⟨⟨τ, V, R, hr, ht⟩, hl, hb⟩ := h
  obtain ⟨g, c, h1, _, _, _, _, hcell, hfr⟩ := hr.form (by rw [bls_len, hl]; omega)
  injection h1 with h1
  injection h1 with h1
  injection h1 with h1
  subst h1
  exact ⟨hcell i _ (bls_get (by rw [hl]; exact hi)), hfr i⟩
theorem NeedR.out3 {w : World} {B b : Nat} {K : KSt} {gn cn : Nat} {need : List Bool} {wr : World} (h : NeedR w B b K gn cn need wr) : (∃ τ V, KRep wr B b τ V K ∧ Row wr B τ 5 4 (.slice (some ⟨gn, 0, none⟩) K.all.length cn) (bls need) ∧ τ gn = 5) ∧ need.length = K.all.length ∧ Below B w wr := ⟨h.ex, h.len, h.bel⟩
theorem need_step {lean : List (List Int)} {given k : Nat} {need r : List Bool} (h : needF lean given (k + 1) need = r) : needF lean given k (if need.getD (given + k) false = true then markL need (lean.getD (given + k) []) else need) = r := h

def GoodPost (w : World) (B b : Nat) (o : Option KSt) (e : Ending) (w' : World) : Prop := match o with
  | some K => e = .returned (.bool true) ∧ KLed w B b K w'
  | none => e = .returned (.bool false) ∧ Below B w w'

set_option maxHeartbeats 8000000 in
set_option maxRecDepth 100000 in
theorem good_any {w : World} {B b : Nat} {τ : Nat → Nat} {V : KV} {K : KSt} (R : KRep w B b τ V K) (h : KOk K) :
    Calls Try.prog 96 #[.pointer (some ⟨b, 0, none⟩)] w (GoodPost w B b (goodR K)) := by
  obtain ⟨iB, hiB, zB1, zB2, zB3⟩ := info_parts infoB
  have HiB := Lib.hid (And.intro hiB (And.intro zB1 (And.intro zB2 zB3)))
  clear hiB zB1 zB2 zB3
  have g0 := h.gv
  have gN := h.ft.n
  have c0 := cell_of_row w b 0 _ _ _ R.blk
  have HK := Lib.hid h
  have HR := Lib.hid R
  have HL0 := Lib.hid (show KLed w B b K w from KLed.mk R (Below.refl _ _))
  have hgr : goodR K = (goodF K.all K.inn (K.all.length - K.given) K.given K.lean).map fun lean => { K with lean := lean, inn := needF lean K.given (K.all.length - K.given) (need0 K.all.length) } := rfl
  generalize goodR K = o at *
  have HO := Lib.hid hgr
  clear R h hgr
  obtain ⟨given, all, inn, lean⟩ := K
  dsimp only at *
  generalize hN : all.length = N at *
  have HN := Lib.hid hN
  clear hN
  have g0i : (given : Int) < N := by omega
  go_enter Try.func96, Try.ntmps96
  go_wp2
  go_loopw [3] (fun s wr => ∃ a : Nat, given ≤ a ∧ a ≤ N ∧ s = .int .i64 a ∧ ∃ ln, KLed w B b ⟨given, all, inn, ln⟩ wr ∧ Hid (goodF all inn (N - a) a ln = goodF all inn (N - given) given lean)) (fun s _ => N - (intOf s).toNat)
  case atStart => exact ⟨given, Nat.le_refl _, by omega, rfl, lean, HL0.out, rfl⟩
  case round =>
    obtain ⟨a, ha0, ha, rfl, ln, ⟨τ1, V1, R1, hb1⟩, hG⟩ := hrel
    obtain ⟨ga, ca, gi, ci, gl, cl, f⟩ := R1.form (by show 0 < all.length; rw [HN.out]; omega)
    have e1 := f.c1
    have e3 := f.c3
    have d0 := f.c0
    dsimp only at e1 e3 d0
    rw [HN.out] at e1 e3
    have HR1 := Lib.hid R1
    have HF := Lib.hid f
    have HB1 := Lib.hid hb1
    clear R1 f hb1
    by_cases hlt : a < N
    · have hfo := follows_any HR1.out HK.out.ft a (by show a < all.length; rw [HN.out]; exact hlt)
      have HG2 := Lib.hid (good_drop hG.out hlt)
      unfold FolPost at hfo
      dsimp only at hfo
      obtain ⟨rl, hrl⟩ : ∃ rl, folR all inn a = rl := ⟨_, rfl⟩
      rw [hrl] at hfo HG2
      obtain ⟨xs, ok⟩ := rl
      have HFo := Lib.hid hfo
      have Hlb := Lib.hid (And.intro HR1.out.lt HF.out.lt)
      clear hfo hrl hG
      have fgl := HF.out.fl a
      obtain ⟨Al, cL, -, xgl, -⟩ := HF.out.xl a (by show a < all.length; rw [HN.out]; exact hlt)
      have hlti : (a : Int) < N := by omega
      cases ok with
      | true =>
        have HG3 := Lib.hid ((if_pos (show ((xs, true) : List Int × Bool).2 = true from rfl)).symm.trans HG2.out)
        go_wp2_with (first
          | (go_at_call 133; refine HFo.out.mono ?_; rintro e w2 ⟨v2, rfl, ho2, hb2⟩; obtain ⟨A2, k2, rfl⟩ := own_slice_i ho2; have HO2 := Lib.hid ho2; have HB2 := Lib.hid hb2; replace e1 := (hb2.cell (p := ⟨b, 1, none⟩) Hlb.out.1).trans e1; replace e3 := (hb2.cell (p := ⟨b, 3, none⟩) Hlb.out.1).trans e3; replace d0 := (hb2.cell (p := ⟨b, 0, none⟩) Hlb.out.1).trans d0; replace fgl := (hb2.frozen (p := ⟨gl, a, none⟩) Hlb.out.2).trans fgl; replace xgl := (hb2.cell (p := ⟨gl, a, none⟩) Hlb.out.2).trans xgl; clear ho2 hb2))
        go_roundw
        case rel =>
          refine ⟨a + 1, by omega, by omega, by go_num, ln.set a xs, ?_, ?_⟩
          · have R2 := HR1.out.stay (stay_below HB2.out τ1 4)
            have hf2 := R2.form (by show 0 < all.length; rw [HN.out]; omega)
            obtain ⟨ga2, ca2, gi2, ci2, gl2, cl2, f2⟩ := hf2
            have egl : gl2 = gl := by have h1 := f2.vl; rw [HF.out.vl] at h1; injection h1 with h1; injection h1 with h1; injection h1 with h1; exact h1.symm
            subst egl
            have R3 := R2.set_lean f2 (fresh_row (τ := τ1) HR1.out.base HO2.out 4) a (by show a < all.length; rw [HN.out]; exact hlt)
            exact KLed.mk R3 ((HB1.out.trans (HB2.out.mono HR1.out.base)).setCell (p := ⟨gl2, a, none⟩) HF.out.bl _)
          · exact HG3.out
        case measure => simp [intOf]; omega
      | false =>
        have HE := Lib.hid (show o = none by
          have h3 := (if_neg (show ¬ ((xs, false) : List Int × Bool).2 = true from Bool.false_ne_true)).symm.trans HG2.out
          rw [HO.out, ← h3]; rfl)
        go_wp2_with (first
          | (go_at_call 133; refine HFo.out.mono ?_; rintro e w2 ⟨v2, rfl, ho2, hb2⟩; have HB2 := Lib.hid (HB1.out.trans (hb2.mono HR1.out.base)); clear ho2 hb2))
        go_ret
        rw [HE.out]
        exact ⟨rfl, HB2.out⟩
    · obtain rfl : a = N := by omega
      have hg2 := hG.out
      rw [Nat.sub_self] at hg2
      have hO : o = some ⟨given, all, needF ln given (a - given) (need0 a), ln⟩ := by rw [HO.out, ← hg2]; rfl
      have hok := HK.out.good (K' := ⟨given, all, needF ln given (a - given) (need0 a), ln⟩) (by
        have h2 := hg2
        unfold goodR
        dsimp only
        rw [HN.out, ← hg2]; rfl)
      have HLr := Lib.hid (fun i => fun n (hn : n ∈ ln.getD i []) => show 0 ≤ n ∧ n < (a : Int) from by
        by_cases hi : i < ln.length
        · have := hok.1.lr _ (getD_mem hi) n hn; rw [← HN.out]; exact this
        · rw [List.getD_eq_getElem?_getD, List.getElem?_eq_none (by omega)] at hn; simp at hn)
      have HE := Lib.hid hO
      clear hg2 hO hok hG hlt
      have HKl := Lib.hid (KLed.mk HR1.out HB1.out)
      have ha1 : 0 < a := by omega
      obtain ⟨q, hq⟩ : ∃ q, a = q + 1 := ⟨a - 1, by omega⟩
      subst hq
      obtain ⟨wo, rfl⟩ : ∃ wo : World, wo = wr := ⟨_, rfl⟩
      go_wp2_with (first
        | (at_make; refine wpList_make_full _ rfl _ _ 124 rfl wo.heap.size 4 iB (.bool false) 1 Try.underlying124 HiB.out.1 HiB.out.2.1 HiB.out.2.2.1 _ _ _ _ (q + 1) rfl rfl (by push_cast; rfl) (by push_cast; rfl) (by rw [HiB.out.2.2.2]; omega) (by unfold maxLen; omega) (Nat.le_refl _) ?_; intro w1 hown1 hgrow1; rw [made_bools] at hown1; have HO1 := Lib.hid hown1; have HG1 := Lib.hid hgrow1; clear hown1 hgrow1; refine Hid.out ?_))
      refine Lib.hid ?_
      have hnd0 : NeedR w B b ⟨given, all, inn, ln⟩ wo.heap.size (q + 1) (List.replicate (q + 1) false) w1 := by
        have h1 := HO1.out
        have h2 := NeedR.init (K := ⟨given, all, inn, ln⟩) HKl.out (by show w1.ownsRow wo.heap.size _ 1 (.slice _ all.length all.length) all.length (bls (List.replicate all.length false)); rw [HN.out]; exact h1) HG1.out
        rw [show (KSt.all ⟨given, all, inn, ln⟩).length = q + 1 from HN.out] at h2
        exact h2
      obtain ⟨yc, yf⟩ := hnd0.cell q (by show q < all.length; rw [HN.out]; omega)
      have hbl : b ≠ wo.heap.size := by have := HR1.out.lt; omega
      have hbl2 : wo.heap.size ≠ b := hbl.symm
      have e1b := (((Below.refl wo.heap.size wo).grown HG1.out (Nat.le_refl _) (fun k hk => by cases hk)).cell (p := ⟨b, 1, none⟩) HR1.out.lt).trans e1
      have HNd := Lib.hid (show NeedR w B b ⟨given, all, inn, ln⟩ wo.heap.size (q + 1) (need0 (q + 1)) (w1.setCell ⟨wo.heap.size, q, none⟩ (.bool true)) from hnd0.set q)
      clear hnd0
      go_wp2
      go_loopw [7] (fun s wr => ∃ k : Nat, k ≤ q + 1 - given ∧ s = .int .i64 ((given : Int) + k - 1) ∧ ∃ need, NeedR w B b ⟨given, all, inn, ln⟩ wo.heap.size (q + 1) need wr ∧ Hid (needF ln given k need = needF ln given (q + 1 - given) (need0 (q + 1)))) (fun s _ => (intOf s - given + 1).toNat)
      case atStart => exact ⟨q + 1 - given, Nat.le_refl _, by go_num, _, HNd.out, rfl⟩
      case round =>
        obtain ⟨k, hk, rfl, need, hnd, hnf⟩ := hrel
        obtain ⟨⟨τ3, V3, R3, hr3, ht3⟩, hl3, hb3⟩ := hnd.out3
        obtain ⟨ga3, ca3, gi3, ci3, gl3, cl3, f3⟩ := R3.form (by show 0 < all.length; rw [HN.out]; omega)
        have x0 := f3.c0
        have x2 := f3.c2
        have x3 := f3.c3
        have xfb := f3.fb 2
        dsimp only at x0 x2 x3 hr3
        rw [HN.out] at x2 x3 hr3
        have HNd3 := Lib.hid hnd
        have HF3 := Lib.hid f3
        cases k with
        | zero =>
          have hlt0 : ¬ ((given : Int) + ((0 : Nat) : Int) - 1 ≥ given) := by omega
          have HX := Lib.hid (show need = needF ln given (q + 1 - given) (need0 (q + 1)) from hnf.out)
          have HS := Lib.hid (And.intro (R3.set_inn hr3 hl3) hb3)
          have HBb := Lib.hid R3.hb
          clear R3 hr3 hl3 hb3 f3 hnf hnd
          go_wp2
          go_ret
          rw [HE.out, ← HX.out]
          exact ⟨rfl, KLed.mk HS.out.1 (HS.out.2.setCell (p := ⟨b, 2, none⟩) HBb.out _)⟩
        | succ k =>
          have hge : (given : Int) + ((k + 1 : Nat) : Int) - 1 ≥ given := by omega
          have hat : (given : Int) + ((k + 1 : Nat) : Int) - 1 = ((given + k : Nat) : Int) := by omega
          rw [hat]
          have hlt2 : ((given + k : Nat) : Int) < (q : Int) + 1 := by omega
          have hge2 : ((given + k : Nat) : Int) ≥ given := by omega
          obtain ⟨yc, -⟩ := hnd.cell (given + k) (by show _ < all.length; rw [HN.out]; omega)
          obtain ⟨AL, cL, hvL, xL, hicL⟩ := f3.xl (given + k) (by show _ < all.length; rw [HN.out]; omega)
          have hle : (given + k) < ln.length := by have h1 : ln.length = all.length := R3.le; rw [h1, HN.out]; omega
          have hrw := R3.lr _ _ _ hvL (show ln[given + k]? = some (ln.getD (given + k) []) by rw [List.getD_eq_getElem?_getD, List.getElem?_eq_getElem hle]; rfl)
          have hrl := hrw.le
          rw [ints_len] at hrl
          have htg := hrw.tag
          have HNe := Lib.hid (fun (ad : Addr) (h : AL = some ad) (e : ad.block = wo.heap.size) => show False from by
            have := htg ad.block (by rw [h]; rfl)
            rw [e, ht3] at this
            omega)
          dsimp only at xL hicL
          clear hvL htg hle hrw
          have HNs := Lib.hid (need_step hnf.out)
          have HIL := Lib.hid hicL
          have HLr2 := Lib.hid (HLr.out (given + k))
          generalize ln.getD (given + k) [] = row at *
          clear hat hge R3 hr3 hl3 hb3 f3 hnf hnd hicL
          cases hnk : need.getD (given + k) false with
          | false =>
            rw [hnk] at yc
            have HNx := Lib.hid (show needF ln given k need = needF ln given (q + 1 - given) (need0 (q + 1)) by have := HNs.out; rw [if_neg (by rw [hnk]; decide)] at this; exact this)
            clear hnk
            go_wp2
            go_roundw
            case rel => exact ⟨k, by omega, by go_num, need, HNd3.out, HNx.out⟩
            case measure => simp [intOf]; omega
          | true =>
            rw [hnk] at yc
            have HNx := Lib.hid (show needF ln given k (markL need row) = needF ln given (q + 1 - given) (need0 (q + 1)) by have := HNs.out; rw [if_pos hnk] at this; exact this)
            clear hnk
            generalize hm : row.length = m at *
            have Hm := Lib.hid hm
            clear hm
            obtain ⟨wp, rfl⟩ : ∃ wp : World, wp = wr := ⟨_, rfl⟩
            go_wp2
            go_loopw [75] (fun i wr => ∃ j : Nat, j ≤ m ∧ i = .int .i64 j ∧ NeedR w B b ⟨given, all, inn, ln⟩ wo.heap.size (q + 1) (markL need (row.take j)) wr ∧ Hid (∀ g, g ≠ wo.heap.size → wr.heap[g]? = wp.heap[g]?)) (fun i _ => m - (intOf i).toNat)
            case atStart => exact ⟨0, Nat.zero_le _, rfl, HNd3.out, fun _ _ => rfl⟩
            case round =>
              obtain ⟨j, hj, rfl, hnj, hfr⟩ := hrel
              by_cases hlt : j < m
              · obtain ⟨ad, hA, hx⟩ := HIL.out j (by rw [Hm.out]; exact hlt)
                subst hA
                have hxr := HLr2.out (row.getD j 0) (getD_mem' (by rw [Hm.out]; exact hlt))
                have HTk := Lib.hid (mark_take (need := need) (ns := row) (j := j) (by rw [Hm.out]; exact hlt))
                obtain ⟨y, hy⟩ : ∃ y : Nat, row.getD j 0 = y := ⟨(row.getD j 0).toNat, by omega⟩
                rw [hy] at hx HTk hxr
                rw [Int.toNat_natCast] at HTk
                obtain ⟨zc, zf⟩ := hnj.cell y (by show y < all.length; rw [HN.out]; omega)
                have hx2 : wr.cell? (ad.add j) = some (.int .i64 (y : Int)) := (cell_congr (hfr.out _ (show (ad.add j).block ≠ wo.heap.size by rw [add_block]; exact HNe.out ad rfl))).trans hx
                have HNj := Lib.hid (hnj.set y)
                have HFr := Lib.hid hfr.out
                have hyl : (y : Int) < (q : Int) + 1 := by have := hxr.2; omega
                clear hx hnj hfr hxr
                go_wp2
                go_roundw
                case rel => exact ⟨j + 1, by omega, by go_num, by rw [HTk.out]; exact HNj.out, fun g hg => (Below.heap_setCell _ _ _ g hg).trans (HFr.out g hg)⟩
                case measure => simp [intOf]; omega
              · obtain rfl : j = m := by omega
                have hce : row.take j = row := List.take_of_length_le (by rw [Hm.out]; exact Nat.le_refl _)
                rw [hce] at hnj
                have HNj := Lib.hid hnj
                clear hnj hce
                go_wp2
                go_roundw
                case rel => exact ⟨k, by omega, by go_num, _, HNj.out, HNx.out⟩
                case measure => simp [intOf]; omega
end Go.Proofs.Ytfljggodnnpeiaa.Trm
