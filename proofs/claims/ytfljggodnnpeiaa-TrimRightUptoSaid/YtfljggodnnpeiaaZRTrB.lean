/- Part of the proof of TrimRight: what the law uses of the text TrB. -/
import Derived.Test.YtfljggodnnpeiaaZRTrA
namespace Go.Proofs.Ytfljggodnnpeiaa.Trm
open Go.RowKit Go.Maps Go.Proofs.Ytfljggodnnpeiaa.Lit Go.Proofs.Ytfljggodnnpeiaa.Spr
open Go.Proofs.YtfljggodnnpeiaaW.PrintWords hiding own_slice own_base own_lt own_move
set_option linter.unusedVariables false
set_option linter.unusedSimpArgs false

def FolPost (w : World) (r : List Int × Bool) (e : Ending) (w' : World) : Prop :=
  ∃ v, e = .returned (.tuple #[v, .bool r.2]) ∧ w'.ownsRow w.heap.size 3 1 v (ints .i64 r.1).length (ints .i64 r.1) ∧ Below w.heap.size w w'
def GatR (w : World) (al : List Value) (inn : List Bool) (k : Nat) (v6 v7 : Value) (wr : World) : Prop :=
  ∃ τ, Row wr w.heap.size τ 1 25 v6 (keptV al inn k) ∧ IRow wr w.heap.size τ 2 3 .i64 v7 (keptN inn k) ∧ Below w.heap.size w wr
theorem GatR.init (w : World) (al : List Value) (inn : List Bool) : GatR w al inn 0 (.slice none 0 0) (.slice none 0 0) w :=
  ⟨fun _ => 0, ⟨⟨rfl, .inl ⟨rfl, rfl⟩⟩, Tg.nil _ _ _ _⟩, ⟨⟨rfl, .inl ⟨rfl, rfl⟩⟩, Tg.nil _ _ _ _⟩, Below.refl _ _⟩
theorem tag_new {τ : Nat → Nat} {v v' : Value} {w : World} {o : Obj} {t : Nat} (h : Tg τ v t) (hlt : ∀ k, v.ownBlock = some k → k < w.heap.size) (hat : v'.ownBlock = v.ownBlock ∨ v'.ownBlock = some (w.alloc o).heap.size) : Tg (retag τ w.heap.size t) v' t := by
  intro k hk
  rcases hat with e | e
  · rw [e] at hk
    exact (retag_old (hlt k hk)).trans (h k hk)
  · rw [e] at hk
    injection hk with hk
    rw [← hk]
    exact retag_new (by simp)
theorem GatR.add {w wr w2 w3 : World} {al : List Value} {inn : List Bool} {k : Nat} {v6 v7 v6' v7' u : Value} {o o2 : Obj} (h : GatR w al inn k v6 v7 wr) (hi : inn.getD k false = true) (hu : al.getD k (.slice none 0 0) = u)
    (h2 : w2.ownsRow w.heap.size 25 1 v6' ((keptV al inn k).length + 1) (keptV al inn k ++ [u])) (g2 : (wr.alloc o).grownBy w2 v6.ownBlock) (a2 : v6'.ownBlock = v6.ownBlock ∨ v6'.ownBlock = some (wr.alloc o).heap.size)
    (h3 : w3.ownsRow w.heap.size 3 1 v7' ((ints .i64 (keptN inn k)).length + 1) (ints .i64 (keptN inn k) ++ [.int .i64 k])) (g3 : (w2.alloc o2).grownBy w3 v7.ownBlock) (a3 : v7'.ownBlock = v7.ownBlock ∨ v7'.ownBlock = some (w2.alloc o2).heap.size) : GatR w al inn (k + 1) v6' v7' w3 := by
  obtain ⟨τ, r1, r2, hb⟩ := h
  have s2 := stay_push o g2 r1.tag
  have r2' := r2.stay s2 (by omega)
  have b2 := below_push o g2 hb.size (fun k hk => (r1.own.lt k hk).1)
  have t1 := tag_new (o := o) r1.tag (fun k hk => (r1.own.lt k hk).2) a2
  have hB2 := hb.trans b2
  have r1' : Row w2 w.heap.size (retag τ wr.heap.size 1) 1 25 v6' (keptV al inn (k + 1)) := by
    rw [keptV_succ, if_pos hi, hu]
    exact ⟨by rw [List.length_append]; exact h2, t1⟩
  have s3 := stay_push o2 g3 r2'.tag
  refine ⟨_, r1'.stay s3 (by omega), ⟨?_, tag_new (o := o2) r2'.tag (fun k hk => (r2'.own.lt k hk).2) a3⟩, hB2.trans (below_push o2 g3 hB2.size (fun k hk => (r2'.own.lt k hk).1))⟩
  rw [keptN_succ, if_pos hi]
  exact row_snoc h3
theorem GatR.skip {w wr : World} {al : List Value} {inn : List Bool} {k : Nat} {v6 v7 : Value} (h : GatR w al inn k v6 v7 wr) (hi : inn.getD k false = false) : GatR w al inn (k + 1) v6 v7 wr := by
  obtain ⟨τ, r1, r2, hb⟩ := h
  have e : ¬ (inn.getD k false = true) := by rw [hi]; decide
  exact ⟨τ, by rw [keptV_succ, if_neg e]; exact r1, by rw [keptN_succ, if_neg e]; exact r2, hb⟩

def turnL (ns : List Int) (bl : List Int) : List Int := bl.map fun n => ns.getD n.toNat 0
theorem turn_take {ns bl : List Int} {k : Nat} (h : k < bl.length) : turnL ns (bl.take (k + 1)) = turnL ns (bl.take k) ++ [ns.getD (bl.getD k 0).toNat 0] := by
  unfold turnL
  rw [List.take_succ_eq_append_getElem h, List.map_append, List.getD_eq_getElem?_getD (l := bl), List.getElem?_eq_getElem h]; rfl
theorem opps_getD (c : List Int) {k : Nat} (h : k < c.length) : (opps c).getD k 0 = -(c.getD k 0) := by
  unfold opps
  rw [List.getD_eq_getElem?_getD, List.getElem?_map, List.getD_eq_getElem?_getD, List.getElem?_eq_getElem h]; rfl
theorem opps_len (c : List Int) : (opps c).length = c.length := by simp [opps]
theorem blame_le (cs : List (List Int)) (F : List Int) (hf : ∀ l ∈ F, fm l = true) (hp : (putsF (newF cs cs.length) F).2 = true) (hb : (ranSt (putsF (newF cs cs.length) F).1).bad ≠ -1) :
    Known (ranSt (putsF (newF cs cs.length) F).1) ∧ (∀ x ∈ (ranSt (putsF (newF cs cs.length) F).1).why, x = -1 ∨ (0 ≤ x ∧ x < (ranSt (putsF (newF cs cs.length) F).1).clauses.length)) ∧ (∀ c ∈ (ranSt (putsF (newF cs cs.length) F).1).clauses, c.length ≤ 2097152) ∧ (0 ≤ (ranSt (putsF (newF cs cs.length) F).1).bad ∧ (ranSt (putsF (newF cs cs.length) F).1).bad < (ranSt (putsF (newF cs cs.length) F).1).clauses.length) ∧ ∀ n ∈ blameL (ranSt (putsF (newF cs cs.length) F).1), 0 ≤ n ∧ n < cs.length := by
  obtain ⟨r1, r2⟩ := ran_wy cs F hf hp
  obtain ⟨b1, _⟩ := blame_clash r1.inv r2 hb
  have hcl := r1.inv.cl
  refine ⟨r1.inv.kn, by rw [hcl]; exact r2.rg, ?_, ?_, fun n hn => by have := b1 n hn; rw [List.length_map] at this; exact this⟩
  · rw [hcl]
    intro c hc
    obtain ⟨c', _, rfl⟩ := List.mem_map.1 hc
    exact tidy_len c'
  · obtain ⟨n, hn, h1, _⟩ := r2.bad.resolve_left hb
    rw [hcl, hn]; omega

theorem keptC_le {all : List (List Int)} (h : KFits all) (inn : List Bool) (a : Nat) : ∀ x ∈ keptC all inn a, x.length ≤ 4194304 := fun x hx => by
  obtain ⟨n, _, rfl⟩ := List.mem_map.1 hx
  by_cases hn : n.toNat < all.length
  · exact h.r _ (getD_mem hn)
  · rw [List.getD_eq_getElem?_getD, List.getElem?_eq_none (by omega)]; simp

set_option maxHeartbeats 8000000 in
set_option maxRecDepth 100000 in
theorem follows_any {w : World} {B b : Nat} {τ : Nat → Nat} {V : KV} {K : KSt} (R : KRep w B b τ V K) (hS : KFits K.all) (a : Nat) (ha : a < K.all.length) :
    Calls Try.prog 133 #[.pointer (some ⟨b, 0, none⟩), .int .i64 a] w (FolPost w (folR K.all K.inn a)) := by
  obtain ⟨ga, ca, gi, ci, gl, cl, f⟩ := R.form (by omega)
  obtain ⟨i3, hi3, z31, z32, z33⟩ := info_parts info3
  obtain ⟨iI, hiI, zI1, zI2, zI3⟩ := info_parts infoI
  have Hi3 := Lib.hid (And.intro hi3 (And.intro z31 (And.intro z32 z33)))
  have HiI := Lib.hid (And.intro hiI (And.intro zI1 (And.intro zI2 zI3)))
  clear hi3 z31 z32 z33 hiI zI1 zI2 zI3
  have HR := Lib.hid R
  have HF := Lib.hid f
  have HS := Lib.hid hS
  have hN : K.all.length ≤ 4194304 := hS.n
  have HA := Lib.hid ha
  clear R f hS
  generalize hn : K.all.length = N at *
  have Hn := Lib.hid hn
  clear hn
  go_enter Try.func133, Try.ntmps133
  go_wp2
  go_loopw [6, 7, 16] (fun v6 v7 i wr => ∃ k : Nat, k ≤ a ∧ i = .int .i64 k ∧ GatR w V.al K.inn k v6 v7 wr) (fun _ _ i _ => a - (intOf i).toNat)
  case atStart => exact ⟨0, Nat.zero_le _, rfl, GatR.init _ _ _⟩
  case round =>
    obtain ⟨k, hk, rfl, hr⟩ := hrel
    by_cases hlt : k < a
    · obtain ⟨τ1, r1, r2, hb⟩ := hr
      obtain ⟨A6, c6, rfl⟩ := own_slice r1.own
      obtain ⟨A7, c7, rfl⟩ := own_slice r2.own
      have hlk := keptN_len K.inn k
      have e1 := (hb.cell (p := ⟨b, 1, none⟩) HR.out.lt).trans HF.out.c1
      have e2 := (hb.cell (p := ⟨b, 2, none⟩) HR.out.lt).trans HF.out.c2
      have xi := (hb.cell (p := ⟨gi, k, none⟩) HF.out.li).trans (HF.out.xi k (by rw [Hn.out]; omega))
      obtain ⟨A1, c1, hal, xa, hFr⟩ := HF.out.xa k (by rw [Hn.out]; omega)
      replace xa := (hb.cell (p := ⟨ga, k, none⟩) HF.out.la).trans xa
      rw [Hn.out] at e1 e2
      have Hal := Lib.hid hal
      have HG := Lib.hid (show GatR w V.al K.inn k _ _ wr from ⟨τ1, r1, r2, hb⟩)
      have Hr1 := Lib.hid r1
      have Hr2 := Lib.hid r2
      have HB := Lib.hid hb
      have HLk := Lib.hid (And.intro (keptV_len V.al K.inn k) hlk)
      clear r1 r2 hb hal hFr hlk
      have hM : (keptV V.al K.inn k).length ≤ 4194304 := by have := HLk.out; omega
      have hM7 : (ints .i64 (keptN K.inn k)).length ≤ 4194304 := by rw [ints_len]; have := HLk.out; omega
      cases hik : K.inn.getD k false with
      | false =>
        rw [hik] at xi
        have Hik := Lib.hid hik
        clear hik hM hM7
        go_wp2
        go_roundw
        case rel => exact ⟨k + 1, by omega, by go_num, GatR.skip HG.out Hik.out⟩
        case measure => simp [intOf]; omega
      | true =>
        rw [hik] at xi
        have Hik := Lib.hid hik
        clear hik
        go_wp2_with (first
          | (at_builtin; refine wpList_append_own_at _ rfl (.tmp 26) (.tmp 34) 22 rfl w.heap.size 25 iI (.slice none 0 0) 1 24 Try.underlying22 HiI.out.1 HiI.out.2.1 HiI.out.2.2.1 HiI.out.2.2.2 rfl (by decide) _ _ _ rfl (Hr1.out.own.alloc _) ⟨wr.heap.size, 0, none⟩ 1 1 [.slice A1 (K.all.getD k []).length c1] rfl rfl (one_new _ _ rfl) (by simp [Value.oneCell']) ?_ ?_ ?_ ?_; (unfold maxLen; omega); omega; (exact base_alloc HB.out.size _); intro v2 w2 hown2 hgrow2 hnil2 hat2; obtain ⟨A2, k2, rfl⟩ := own_slice hown2; have H2 := Lib.hid (And.intro hown2 (And.intro hgrow2 hat2)); have HR7 := Lib.hid (Hr2.out.stay (stay_push _ hgrow2 Hr1.out.tag) (by omega)); have HB2 := Lib.hid (below_push _ hgrow2 HB.out.size (fun j hj => (Hr1.out.own.lt j hj).1)); clear hown2 hgrow2 hnil2 hat2)
          | (at_builtin; refine wpList_append_own_at _ rfl (.tmp 36) (.tmp 38) 25 rfl w.heap.size 3 i3 (.int .i64 0) 1 8 Try.underlying25 Hi3.out.1 Hi3.out.2.1 Hi3.out.2.2.1 Hi3.out.2.2.2 rfl (by decide) _ _ _ rfl (HR7.out.own.alloc _) ⟨w2.heap.size, 0, none⟩ 1 1 [.int .i64 (k : Int)] rfl rfl (one_new _ _ rfl) (by simp [Value.oneCell']) ?_ ?_ ?_ ?_; (unfold maxLen; omega); omega; (exact base_alloc (HB.out.trans HB2.out).size _); intro v3 w3 hown3 hgrow3 hnil3 hat3; obtain ⟨A3, k3, rfl⟩ := own_slice hown3; have H3 := Lib.hid (And.intro hown3 (And.intro hgrow3 hat3)); clear hown3 hgrow3 hnil3 hat3))
        go_roundw
        case rel => exact ⟨k + 1, by omega, by go_num, GatR.add HG.out Hik.out (by rw [List.getD_eq_getElem?_getD, Hal.out]; rfl) H2.out.1 H2.out.2.1 H2.out.2.2 H3.out.1 H3.out.2.1 H3.out.2.2⟩
        case measure => simp [intOf]; omega
    · obtain rfl : k = a := by omega
      obtain ⟨τ1, r1, r2, hb⟩ := hr
      obtain ⟨A6, c6, rfl⟩ := own_slice r1.own
      obtain ⟨A7, c7, rfl⟩ := own_slice r2.own
      have hka : k < K.all.length := by rw [Hn.out]; exact HA.out
      have hrc := kept_rc HR.out (k := k) (by rw [Hn.out]; omega) hb r1.own
      have hlen : (keptV V.al K.inn k).length = (keptC K.all K.inn k).length := by rw [keptV_len, keptC_len]
      have hcl := keptC_len K.all K.inn k
      have hkl := keptN_len K.inn k
      have HNew := Lib.hid (new_any A6 c6 (keptC K.all K.inn k) wr hrc (fun x hx => by have := keptC_le HS.out K.inn k x hx; omega) (by omega))
      have e1 := (hb.cell (p := ⟨b, 1, none⟩) HR.out.lt).trans HF.out.c1
      obtain ⟨A1, c1, hal, xa0, hFr⟩ := HF.out.xa k hka
      have xa := (hb.cell (p := ⟨ga, k, none⟩) HF.out.la).trans xa0
      have hic := (ic_of_F hFr).below hb
      rw [Hn.out] at e1
      have HIc := Lib.hid hic
      have Hlb := Lib.hid (And.intro (World.block_lt_of_cell? wr _ e1) (World.block_lt_of_cell? wr _ xa))
      have HF7 := Lib.hid (own_IC r2.own)
      have HFm := Lib.hid (getD_fm HS.out.f k)
      have hrl : (K.all.getD k []).length ≤ 4194304 := HS.out.r _ (getD_mem hka)
      have hfol : folR K.all K.inn k = if (putsF (newF (keptC K.all K.inn k) (keptC K.all K.inn k).length) (opps (K.all.getD k []))).2 = true then (if (ranSt (putsF (newF (keptC K.all K.inn k) (keptC K.all K.inn k).length) (opps (K.all.getD k []))).1).bad = -1 then ([], false) else (turnL (keptN K.inn k) (blameL (ranSt (putsF (newF (keptC K.all K.inn k) (keptC K.all K.inn k).length) (opps (K.all.getD k []))).1)), true)) else ([], true) := rfl
      have HBl := Lib.hid (fun hp hb => blame_le (keptC K.all K.inn k) (opps (K.all.getD k [])) (opps_fm (getD_fm HS.out.f k)) hp hb)
      have HBu := Lib.hid (newF_built (keptC K.all K.inn k) (keptC K.all K.inn k).length (Nat.le_refl _))
      have HB := Lib.hid hb
      have HOp := Lib.hid (fun j (hj : j < (K.all.getD k []).length) => opps_getD (K.all.getD k []) hj)
      have HOl := Lib.hid (opps_len (K.all.getD k []))
      rw [ints_len]
      rw [hlen]
      generalize hcs : keptC K.all K.inn k = cs at *
      generalize hns : keptN K.inn k = ns at *
      generalize hrow : K.all.getD k [] = row at *
      generalize folR K.all K.inn k = r at *
      have HR1 := Lib.hid hfol
      clear hrc hlen hal xa0 hFr hic hka hlt hfol r1 r2 hcs hns hrow hb
      unfold NewPost at HNew
      have hns9 : ns.length ≤ 4194304 := by omega
      have Hns := Lib.hid hcl
      clear hcl hkl
      generalize hS0 : newF cs cs.length = S0 at *
      clear hS0
      generalize hF : opps row = Fs at *
      have HFs := Lib.hid hF
      clear hF
      generalize hm : row.length = m at *
      have Hm := Lib.hid hm
      clear hm
      go_wp2_with (first
        | (go_at_call 107; refine HNew.out.mono ?_; rintro e w1 ⟨b1, τ1, V1, rfl, R1, hb1⟩; have HR2 := Lib.hid R1; have HB1 := Lib.hid hb1; replace e1 := (hb1.cell (p := ⟨b, 1, none⟩) Hlb.out.1).trans e1; replace xa := (hb1.cell (p := ⟨ga, k, none⟩) Hlb.out.2).trans xa; clear R1 hb1))
      obtain ⟨wo, rfl⟩ : ∃ wo : World, wo = wr := ⟨_, rfl⟩
      go_loopw [51] (fun i wx => ∃ j : Nat, j ≤ m ∧ i = .int .i64 j ∧ ∃ S τ V, Rep wx wo.heap.size b1 τ V S ∧ Hid (Below wo.heap.size wo wx) ∧ Hid (Spr.Good S) ∧ Hid (Known S) ∧ Hid (putsF S0 Fs = putsF S (Fs.drop j))) (fun i _ => m - (intOf i).toNat)
      case atStart => exact ⟨0, Nat.zero_le _, rfl, _, _, _, HR2.out, HB1.out, HBu.out.good, HBu.out.known, rfl⟩
      case round =>
        obtain ⟨j, hj, rfl, S, τ2, V2, hR, hBx, hG, hK, hP⟩ := hrel
        have HRx := Lib.hid hR
        clear hR
        by_cases hlt : j < m
        · obtain ⟨ad, hA, hx⟩ := HIc.out j (by rw [Hm.out]; exact hlt)
          replace hx := (hBx.out.cell (World.block_lt_of_cell? wo _ hx)).trans hx
          subst hA
          obtain ⟨x0, x1, x2⟩ := fm_true (HFm.out (row.getD j 0) (getD_mem' (by rw [Hm.out]; exact hlt)))
          have HPd := Lib.hid (puts_drop hP.out (k := j) (by rw [HOl.out]; exact hlt))
          have ho := HOp.out j hlt
          rw [ho] at HPd
          clear ho
          generalize row.getD j 0 = x at *
          have hneg : fm (-x) = true := by unfold fm; rw [decide_eq_true_iff]; omega
          have HPt := Lib.hid (put_any HRx.out hG.out.ok (-x) (-1))
          have Hfl := Lib.hid hneg
          clear hneg
          obtain ⟨o, ho⟩ : ∃ o, putOk S (-x) = o := ⟨_, rfl⟩
          have HO := Lib.hid ho
          rw [ho] at HPt
          clear ho
          cases o with
          | true =>
            go_wp2_with (first
              | (go_at_call 63; refine HPt.out.mono ?_; rintro e w2 ⟨rfl, τ3, V3, R3, hb3, hp3⟩; have HR3 := Lib.hid R3; have HB3 := Lib.hid (hBx.out.trans hb3); clear R3 hb3 hp3))
            go_roundw
            case rel => exact ⟨j + 1, by omega, by go_num, putSt S (-x) (-1), _, _, HR3.out, HB3.out, hG.out.put (-x) (-1) Hfl.out, hK.out.put (-x) (-1), by show _ = _; rw [HPd.out, if_pos HO.out]⟩
            case measure => simp [intOf]; omega
          | false =>
            have HE := Lib.hid (show r = ([], true) by
              have h2 : putsF S0 Fs = (putSt S (-x) (-1), false) := by rw [HPd.out, HO.out]; rfl
              rw [HR1.out, h2]; rfl)
            go_wp2_with (first
              | (go_at_call 63; refine HPt.out.mono ?_; rintro e w2 ⟨rfl, τ3, V3, R3, hb3, hp3⟩; have HB3 := Lib.hid (HB.out.trans ((hBx.out.trans hb3).mono HB.out.size)); clear R3 hb3 hp3))
            go_ret2
            rw [HE.out]
            exact ⟨_, rfl, own_nil _ _, HB3.out⟩
        · obtain rfl : j = m := by omega
          have hP' := hP.out
          rw [List.drop_eq_nil_of_le (by rw [HOl.out]; exact Nat.le_refl _), putsF] at hP'
          have hS1 : (putsF S0 Fs).1 = S := by rw [hP']
          have hS2 : (putsF S0 Fs).2 = true := by rw [hP']
          have hr1 : r = (if (ranSt S).bad = -1 then ([], false) else (turnL ns (blameL (ranSt S)), true)) := by rw [HR1.out, if_pos hS2, hS1]
          have HBl2 := Lib.hid (fun hb => by have := HBl.out hS2 (by rw [hS1]; exact hb); rw [hS1] at this; exact this)
          have HBg := Lib.hid (begin_any HRx.out hG.out)
          have hGb := hG.out.begin_ S.clauses.length (Nat.le_refl _)
          have HRun := Lib.hid (fun (w2 : World) (τ2 : Nat → Nat) (V2 : Vals) (R2 : Rep w2 wo.heap.size b1 τ2 V2 (beginSt S)) => run_any R2 hGb (begin_known hK.out _) (fuel (beginSt S)) (by unfold fuel; omega))
          have hran : runF (fuel (beginSt S)) (beginSt S) = ranSt S := rfl
          have HGr := Lib.hid (show Spr.Good (ranSt S) from (run_like (begin_known hK.out _) (fuel (beginSt S)) (Like.refl hGb)).good)
          rw [hran] at HRun
          have HR4 := Lib.hid hr1
          clear hP' hGb hS1 hS2 hr1 hran
          generalize ranSt S = T at *
          by_cases hbad : T.bad = -1
          · have hd : decide (T.bad = -1) = true := decide_eq_true hbad
            rw [hd] at HRun
            have HE := Lib.hid (show r = ([], false) by rw [HR4.out, if_pos hbad])
            clear hd hbad
            go_wp2_with (first
              | (go_at_call 108; refine HBg.out.mono ?_; rintro e w2 ⟨rfl, τ3, V3, R3, hb3, hp3⟩; have HR3 := Lib.hid R3; have HB3 := Lib.hid (hBx.out.trans hb3); clear R3 hb3 hp3)
              | (go_at_call 64; refine (HRun.out _ _ _ HR3.out).mono ?_; rintro e w3 ⟨rfl, τ4, V4, R4, hb4, hp4⟩; have HB4 := Lib.hid (HB.out.trans ((HB3.out.trans hb4).mono HB.out.size)); clear R4 hb4 hp4))
            go_ret2
            rw [HE.out]
            exact ⟨_, rfl, own_nil _ _, HB4.out⟩
          · have hd : decide (T.bad = -1) = false := decide_eq_false hbad
            rw [hd] at HRun
            obtain ⟨q1, q2, q3, q4, q5⟩ := HBl2.out hbad
            have HE := Lib.hid (show r = (turnL ns (blameL T), true) by rw [HR4.out, if_neg hbad])
            have HBm := Lib.hid (fun (w3 : World) (τ3 : Nat → Nat) (V3 : Vals) (R3 : Rep w3 wo.heap.size b1 τ3 V3 T) => blame_any R3 HGr.out q1 q2 q3 q4)
            have HQ5 := Lib.hid q5
            have HLe := Lib.hid (blame_len HGr.out q1 q2 q4)
            clear hd hbad q1 q2 q3 q4 q5
            unfold LitsPost at HBm
            generalize blameL T = bl at *
            go_wp2_with (first
              | (go_at_call 108; refine HBg.out.mono ?_; rintro e w2 ⟨rfl, τ3, V3, R3, hb3, hp3⟩; have HR3 := Lib.hid R3; have HB3 := Lib.hid (hBx.out.trans hb3); clear R3 hb3 hp3)
              | (go_at_call 64; refine (HRun.out _ _ _ HR3.out).mono ?_; rintro e w3 ⟨rfl, τ4, V4, R4, hb4, hp4⟩; have HR5 := Lib.hid R4; have HB4 := Lib.hid (HB3.out.trans hb4); clear R4 hb4 hp4)
              | (go_at_call 151; refine (HBm.out _ _ _ HR5.out).mono ?_; rintro e w4 ⟨v4, rfl, ho4, hb4⟩; obtain ⟨A4, c4, rfl, hi4⟩ := own_IC ho4; have HI4 := Lib.hid hi4; have HB5 := Lib.hid (HB4.out.trans (hb4.mono HB4.out.size)); clear ho4 hb4 hi4))
            have hbl := HLe.out
            generalize hml : bl.length = ml at *
            have Hml := Lib.hid hml
            clear hml
            have HI7 := Lib.hid (HF7.out)
            go_loopw [12, 68] (fun u i wy => ∃ q : Nat, q ≤ ml ∧ i = .int .i64 q ∧ Hid (wy.ownsRow w4.heap.size 3 1 u (ints .i64 (turnL ns (bl.take q))).length (ints .i64 (turnL ns (bl.take q)))) ∧ Hid (Below w4.heap.size w4 wy)) (fun _ i _ => ml - (intOf i).toNat)
            case atStart => exact ⟨0, Nat.zero_le _, rfl, own_nil _ _, Below.refl _ _⟩
            case round =>
              obtain ⟨q, hq, rfl, ho, hby⟩ := hrel
              by_cases hlt : q < ml
              · obtain ⟨ad4, hA4, hx4⟩ := HI4.out q (by rw [Hml.out]; exact hlt)
                replace hx4 := (hby.out.cell (World.block_lt_of_cell? w4 _ hx4)).trans hx4
                subst hA4
                have hqr := HQ5.out (bl.getD q 0) (getD_mem' (by rw [Hml.out]; exact hlt))
                have HTk := Lib.hid (turn_take (ns := ns) (bl := bl) (k := q) (by rw [Hml.out]; exact hlt))
                have htl : (turnL ns (bl.take q)).length ≤ 1048578 := by unfold turnL; rw [List.length_map, List.length_take]; omega
                generalize bl.getD q 0 = y at *
                obtain ⟨y0, rfl⟩ : ∃ y0 : Nat, y = y0 := ⟨y.toNat, by omega⟩
                rw [Int.toNat_natCast] at HTk
                have hyn : y0 < ns.length := by have := Hns.out; omega
                obtain ⟨A7', c7', hv7, hI7⟩ := HI7.out
                have hA7 : A7 = A7' := by injection hv7
                subst hA7
                obtain ⟨ad7, hA7, hx7⟩ := hI7 y0 hyn
                have hlt7 := World.block_lt_of_cell? wo _ hx7
                replace hx7 := (hby.out.cell (Nat.lt_of_lt_of_le hlt7 HB5.out.size)).trans ((HB5.out.cell hlt7).trans hx7)
                subst hA7
                generalize ns.getD y0 0 = z at *
                obtain ⟨A12, c12, rfl⟩ := own_slice ho.out
                rw [ints_len] at *
                have HO12 := Lib.hid ho.out
                have HBy := Lib.hid hby.out
                have hyn2 : (y0 : Int) < ns.length := by omega
                clear ho hby hqr hI7 hv7 hyn hlt7
                go_wp2_with (first
                  | (at_builtin; refine wpList_append_own_at _ rfl (.tmp 72) (.tmp 77) 25 rfl w4.heap.size 3 i3 (.int .i64 0) 1 8 Try.underlying25 Hi3.out.1 Hi3.out.2.1 Hi3.out.2.2.1 Hi3.out.2.2.2 rfl (by decide) _ _ _ rfl (HO12.out.alloc _) ⟨wr.heap.size, 0, none⟩ 1 1 [.int .i64 z] rfl rfl (one_new _ _ rfl) (by simp [Value.oneCell']) ?_ ?_ ?_ ?_; (unfold maxLen; omega); omega; (exact base_alloc HBy.out.size _); intro v5 w5 hown5 hgrow5 hnil5 hat5; obtain ⟨A5, k5, rfl⟩ := own_slice hown5; have HO5 := Lib.hid hown5; have HB6 := Lib.hid (HBy.out.trans (below_push _ hgrow5 HBy.out.size (fun j hj => (HO12.out.lt j hj).1))); clear hown5 hgrow5 hnil5 hat5))
                go_roundw
                case rel => exact ⟨q + 1, by omega, by go_num, by rw [HTk.out]; exact row_snoc (by rw [ints_len]; exact HO5.out), HB6.out⟩
                case measure => simp [intOf]; omega
              · obtain rfl : q = ml := by omega
                rw [List.take_of_length_le (by rw [Hml.out]; exact Nat.le_refl _)] at ho
                have HOf := Lib.hid (own_lower (B' := w.heap.size) ho.out (Nat.le_trans HB.out.size HB5.out.size))
                have HBf := Lib.hid (HB.out.trans ((HB5.out.trans (hby.out.mono HB5.out.size)).mono HB.out.size))
                clear ho hby
                go_wp2
                go_ret2
                rw [HE.out]
                exact ⟨_, rfl, HOf.out, HBf.out⟩
end Go.Proofs.Ytfljggodnnpeiaa.Trm
