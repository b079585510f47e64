/- Part of the proof of TrimRight: what the law uses of the text TrJ. -/
import Derived.Test.YtfljggodnnpeiaaZRTrI
import Derived.Test.YtfljggodnnpeiaaZRTrG
namespace Go.Proofs.Ytfljggodnnpeiaa.Trm
open Go.RowKit Go.Maps Go.Shelf Go.Proofs Go.Proofs.Ytfljggodnnpeiaa.Lit Go.Proofs.Ytfljggodnnpeiaa.Spr
open Go.Proofs.YtfljggodnnpeiaaW.PrintWords hiding own_slice own_base own_lt own_move
set_option linter.unusedVariables false
set_option linter.unusedSimpArgs false

def SF (w : World) (A : Option Addr) (l : List (Bool × List Int)) : Prop := ∀ k, k < l.length → ∃ ad A1 c1, A = some ad ∧ w.cell? (ad.add (k * 2)) = some (.bool (l.getD k (false, [])).1) ∧ w.cell? ⟨(ad.add (k * 2)).block, (ad.add (k * 2)).off + 1, none⟩ = some (.slice A1 (l.getD k (false, [])).2.length c1) ∧ (l.getD k (false, [])).2.length ≤ c1 ∧ Kd.F (Kd.int .i64) w (fun k => k < w.heap.size) A1 (l.getD k (false, [])).2.length (l.getD k (false, [])).2
def SG (w : World) (B : Nat) (A : Option Addr) (l : List (Bool × List Int)) : Prop := ∀ k, k < l.length → ∃ ad A1 c1, A = some ad ∧ w.cell? (ad.add (k * 2)) = some (.bool (l.getD k (false, [])).1) ∧ w.cell? ⟨(ad.add (k * 2)).block, (ad.add (k * 2)).off + 1, none⟩ = some (.slice A1 (l.getD k (false, [])).2.length c1) ∧ (l.getD k (false, [])).2.length ≤ c1 ∧ Kd.F (Kd.int .i64) w (fun k => k < B) A1 (l.getD k (false, [])).2.length (l.getD k (false, [])).2
theorem SF.later {w w1 : World} {A : Option Addr} {l : List (Bool × List Int)} (h : SF w A l) (hb : Below w.heap.size w w1) : SG w1 w.heap.size A l := fun k hk => by
  obtain ⟨ad, A1, c1, e, h1, h2, h3, h4⟩ := h k hk
  exact ⟨ad, A1, c1, e, (hb.cell (World.block_lt_of_cell? w _ h1)).trans h1, (hb.cell (World.block_lt_of_cell? w _ h2)).trans h2, h3, Kd.F_step h4 (fun k hk _ => hb.block k hk)⟩
theorem SG.below {w w1 : World} {B : Nat} {A : Option Addr} {l : List (Bool × List Int)} (h : SG w B A l) (hB : B ≤ w.heap.size) (hb : Below w.heap.size w w1) : SG w1 B A l := fun k hk => by
  obtain ⟨ad, A1, c1, e, h1, h2, h3, h4⟩ := h k hk
  exact ⟨ad, A1, c1, e, (hb.cell (World.block_lt_of_cell? w _ h1)).trans h1, (hb.cell (World.block_lt_of_cell? w _ h2)).trans h2, h3, Kd.F_step h4 (fun k hk _ => hb.block k (Nat.lt_of_lt_of_le hk hB))⟩
theorem SG.sf {w : World} {B : Nat} {A : Option Addr} {l : List (Bool × List Int)} (h : SG w B A l) (hB : B ≤ w.heap.size) : SF w A l := fun k hk => by
  obtain ⟨ad, A1, c1, e, h1, h2, h3, h4⟩ := h k hk
  exact ⟨ad, A1, c1, e, h1, h2, h3, Kd.F_mono h4 (fun k hk => Nat.lt_of_lt_of_le hk hB)⟩

def badS (s : Bool × List Int) : Bool := !s.2.all fm
set_option maxHeartbeats 1000000 in
theorem bad_any (d : Bool) (A : Option Addr) (c : Nat) (xs : List Int) (w : World) (hC : IC w A xs) (hl : xs.length ≤ 9223372036854775807) :
    Calls Try.prog 91 #[.agg #[.bool d, .slice A xs.length c]] w fun e w' => e = .returned (.bool (!xs.all fm)) ∧ Below w.heap.size w w' := by
  have hb : Below w.heap.size w (w.alloc (.cells #[.bool d, .slice A xs.length c] 79)) := (Below.refl _ _).alloc (Nat.le_refl _) _
  have HS := Lib.hid (sound_any A c xs _ (hC.below hb) hl)
  have HB := Lib.hid hb
  clear hb hC
  generalize xs.all fm = p at *
  generalize xs.length = n at *
  go_enter Try.func91, Try.ntmps91
  go_wp2_with (go_at_call 92; refine HS.out.mono ?_; rintro e w' ⟨rfl, rfl⟩)
  go_ret
  exact ⟨rfl, HB.out⟩

def IdxPost (w : World) (p : Bool) (e : Ending) (w' : World) : Prop := ∃ r : Int, e = .returned (.int .i64 r) ∧ -1 ≤ r ∧ r ≤ 9223372036854775807 ∧ decide (0 ≤ r) = p ∧ Below w.heap.size w w'
set_option maxHeartbeats 2000000 in
theorem index_any (As : Option Addr) (cq : Nat) (l : List (Bool × List Int)) (w : World) (hS : SF w As l) (hl : l.length ≤ 4194304) (h8 : ∀ s ∈ l, s.2.length ≤ 4194304) :
    Calls Try.prog 130 #[.slice As l.length cq, .func (.func 91) #[] #[]] w (IdxPost w (l.any badS)) := by
  have HS := Lib.hid (fun k (hk : k < l.length) (w2 : World) (hb : Below w.heap.size w w2) => (hS.later hb) k hk)
  have H8 := Lib.hid (fun k (hk : k < l.length) => show (l.getD k (false, [])).2.length ≤ 4194304 from h8 _ (by rw [List.getD_eq_getElem?_getD, List.getElem?_eq_getElem hk]; exact List.getElem_mem _))
  have HYes := Lib.hid (fun k (hk : k < l.length) (hp : badS (l.getD k (false, [])) = true) => show l.any badS = true from List.any_eq_true.2 ⟨_, by rw [List.getD_eq_getElem?_getD, List.getElem?_eq_getElem hk]; exact List.getElem_mem _, hp⟩)
  have HNo := Lib.hid (fun k (hk : k < l.length) (hp : badS (l.getD k (false, [])) = false) (h : (l.take k).any badS = false) => show (l.take (k + 1)).any badS = false by
    rw [List.take_add_one, List.any_append, h, List.getElem?_eq_getElem hk]
    rw [List.getD_eq_getElem?_getD, List.getElem?_eq_getElem hk] at hp
    simpa using hp)
  have HEnd := Lib.hid (show l.take l.length = l from List.take_length)
  clear hS h8
  unfold IdxPost
  generalize hp : l.any badS = p at *
  have Hp := Lib.hid hp
  clear hp
  go_enter Try.func130, Try.ntmps130
  go_wp2
  go_loopw [8] (fun i wr => ∃ k : Nat, k ≤ l.length ∧ i = .int .i64 k ∧ Hid ((l.take k).any badS = false) ∧ Hid (Below w.heap.size w wr)) (fun i _ => l.length - (intOf i).toNat)
  case atStart => exact ⟨0, Nat.zero_le _, rfl, by show _ = _; simp, Below.refl _ _⟩
  case round =>
    obtain ⟨k, hk, rfl, hA, HB⟩ := hrel
    by_cases hlt : k < l.length
    · obtain ⟨ad, A1, c1, hA1, hx, hy, hc1, hf⟩ := HS.out k hlt _ HB.out
      subst hA1
      have h8k := H8.out k hlt
      have HY := Lib.hid (HYes.out k hlt)
      have HN := Lib.hid (fun hp => HNo.out k hlt hp hA.out)
      clear hA
      generalize l.getD k (false, []) = s at *
      obtain ⟨d, c⟩ := s
      dsimp only at *
      have HBd := Lib.hid (bad_any d A1 c1 c wr (ic_of_F hf) (by omega))
      clear hf
      change Hid (badS (d, c) = true → _) at HY
      obtain ⟨q, hq⟩ : ∃ q, badS (d, c) = q := ⟨_, rfl⟩
      rw [hq] at HY HN
      have hq2 : (!c.all fm) = q := hq
      rw [hq2] at HBd
      clear hq hq2
      cases q with
      | true =>
        go_wp2_with (go_at_call 91; refine HBd.out.mono ?_; rintro e w2 ⟨rfl, hb2⟩; have HB2 := Lib.hid (HB.out.trans (hb2.mono HB.out.size)); clear hb2)
        go_ret
        exact ⟨_, rfl, by omega, by omega, by rw [HY.out trivial]; simp, HB2.out⟩
      | false =>
        go_wp2_with (go_at_call 91; refine HBd.out.mono ?_; rintro e w2 ⟨rfl, hb2⟩; have HB2 := Lib.hid (HB.out.trans (hb2.mono HB.out.size)); clear hb2)
        go_roundw
        case rel => exact ⟨k + 1, by omega, by go_num, HN.out trivial, HB2.out⟩
        case measure => simp [intOf]; omega
    · obtain rfl : k = l.length := by omega
      have hE := hA.out
      rw [HEnd.out] at hE
      have HE := Lib.hid (show p = false from Hp.out.symm.trans hE)
      clear hE
      go_wp2
      go_ret
      exact ⟨_, rfl, by omega, by omega, by rw [HE.out]; rfl, HB.out⟩

set_option maxHeartbeats 1000000 in
theorem contains_any (As : Option Addr) (cq : Nat) (l : List (Bool × List Int)) (w : World) (hS : SF w As l) (hl : l.length ≤ 4194304) (h8 : ∀ s ∈ l, s.2.length ≤ 4194304) :
    Calls Try.prog 90 #[.slice As l.length cq, .func (.func 91) #[] #[]] w fun e w' => e = .returned (.bool (l.any badS)) ∧ Below w.heap.size w w' := by
  have HI := Lib.hid (index_any As cq l w hS hl h8)
  unfold IdxPost at HI
  clear hS h8
  generalize l.any badS = p at *
  go_enter Try.func90, Try.ntmps90
  go_wp2_with (go_at_call 130; refine HI.out.mono ?_; rintro e w2 ⟨r, rfl, hr1, hr2, hrp, hb2⟩; have HR := Lib.hid hrp; have HB := Lib.hid hb2; clear hrp hb2)
  go_ret
  exact ⟨by rw [← HR.out]; rfl, HB.out⟩

def AddsPost (w : World) (B : Nat) (r : Option (List (List Int))) (e : Ending) (w' : World) : Prop := ∃ v vs, e = .returned (.tuple #[v, .bool r.isSome]) ∧ Below w.heap.size w w' ∧ w'.ownsRow w.heap.size 25 1 v vs.length vs ∧ RowsAt w' (fun k => k < B) vs (r.getD [])
theorem RowsAt.snoc {w : World} {ok : Nat → Prop} {vs : List Value} {cs : List (List Int)} (h : RowsAt w ok vs cs) {A : Option Addr} {n c1 : Nat} {c : List Int} (hn : n = c.length) (hc : n ≤ c1) (hf : Kd.F (Kd.int .i64) w ok A n c) : RowsAt w ok (vs ++ [.slice A n c1]) (cs ++ [c]) := by
  subst hn
  refine ⟨by simp [h.1], fun i hi => ?_⟩
  by_cases hlt : i < cs.length
  · obtain ⟨A2, c2, h1, h2, h3⟩ := h.2 i hlt
    have e : (cs ++ [c]).getD i [] = cs.getD i [] := by rw [List.getD_eq_getElem?_getD, List.getElem?_append_left hlt, List.getD_eq_getElem?_getD]
    rw [e]
    exact ⟨A2, c2, by rw [List.getElem?_append_left (by rw [h.1]; exact hlt)]; exact h1, h2, h3⟩
  · obtain rfl : i = cs.length := by simp at hi; omega
    have e : (cs ++ [c]).getD cs.length [] = c := by rw [List.getD_eq_getElem?_getD, List.getElem?_append_right (Nat.le_refl _)]; simp
    rw [e]
    exact ⟨A, c1, by rw [← h.1, List.getElem?_append_right (Nat.le_refl _)]; simp, hc, hf⟩
theorem RowsAt.below {w w1 : World} {B : Nat} {vs : List Value} {cs : List (List Int)} (h : RowsAt w (fun k => k < B) vs cs) (hb : Below B w w1) : RowsAt w1 (fun k => k < B) vs cs := h.step (fun k hk _ => hb.block k hk)
theorem two_old {w : World} {x y : Value} {t : TypeId} (o : Obj) : ((w.alloc (.cells #[x, y] t)).alloc o).cell? ⟨w.heap.size, 1, none⟩ = some y := (World.cell?_alloc_lt _ _ _ (by simp)).trans (by simp)
theorem two_cell {w w2 : World} {x y v : Value} {t e : TypeId} {o : Obj} {base size n : Nat} {xs : List Value} (ho : w.ownsRow base e size v n xs) (hg : ((w.alloc (.cells #[x, y] t)).alloc o).grownBy w2 v.ownBlock) : w2.cell? ⟨w.heap.size, 1, none⟩ = some y := by
  have h := hg.block w.heap.size (by simp; omega) (fun e => absurd (ho.lt _ e.symm).2 (by omega))
  have h2 := two_old (w := w) (x := x) (y := y) (t := t) o
  rw [← h2]
  simp only [World.cell?, h]
theorem addsL_cons (s : Bool × List Int) (t : List (Bool × List Int)) : addsL (s :: t) = if s.1 = true then addsL t else if s.2 = [] then some [[]] else (addsL t).map (s.2 :: ·) := by rw [addsL]
theorem infoL : (Try.prog.info? 25).map (fun i => (i.zero, i.size, i.bytes)) = some (some (.slice none 0 0), 1, 24) := by kernel_rfl

set_option maxHeartbeats 4000000 in
set_option maxRecDepth 100000 in
theorem additions_any (As : Option Addr) (cq : Nat) (l : List (Bool × List Int)) (w : World) (B : Nat) (hS : SG w B As l) (hBw : B ≤ w.heap.size) (hl : l.length ≤ 4194304) (h8 : ∀ s ∈ l, s.2.length ≤ 4194304) :
    Calls Try.prog 93 #[.slice As l.length cq] w (AddsPost w B (addsL l)) := by
  obtain ⟨iI, hiI, zI1, zI2, zI3⟩ := info_parts infoL
  have HiI := Lib.hid (And.intro hiI (And.intro zI1 (And.intro zI2 zI3)))
  clear hiI zI1 zI2 zI3
  have HS := Lib.hid (fun k (hk : k < l.length) (w2 : World) (hb : Below w.heap.size w w2) => (hS.below hBw hb) k hk)
  have H8 := Lib.hid (fun k (hk : k < l.length) => show (l.getD k (false, [])).2.length ≤ 4194304 from h8 _ (by rw [List.getD_eq_getElem?_getD, List.getElem?_eq_getElem hk]; exact List.getElem_mem _))
  have HDr := Lib.hid (fun k (hk : k < l.length) => show l.drop k = l.getD k (false, []) :: l.drop (k + 1) by rw [List.drop_eq_getElem_cons hk, List.getD_eq_getElem?_getD, List.getElem?_eq_getElem hk]; rfl)
  have HEnd := Lib.hid (show l.drop l.length = [] from List.drop_length)
  clear hS h8
  generalize hr : addsL l = r at *
  have Hr := Lib.hid hr
  clear hr
  go_enter Try.func93, Try.ntmps93
  go_wp2
  go_loopw [4, 9] (fun v i wr => ∃ (k : Nat) (vs : List Value) (added : List (List Int)), k ≤ l.length ∧ i = .int .i64 k ∧ vs.length ≤ k ∧ Hid (wr.ownsRow w.heap.size 25 1 v vs.length vs) ∧ Hid (RowsAt wr (fun k => k < B) vs added) ∧ Hid (Below w.heap.size w wr) ∧ Hid (r = (addsL (l.drop k)).map (added ++ ·))) (fun _ i _ => l.length - (intOf i).toNat)
  case atStart => exact ⟨0, [], [], Nat.zero_le _, rfl, Nat.le_refl _, World.ownsRow_nil _ _ _ _, ⟨rfl, fun i h => absurd h (by simp)⟩, Below.refl _ _, by show _ = _; rw [← Hr.out]; simp⟩
  case round =>
    obtain ⟨k, vs, added, hk, rfl, hvk, HO, HRw, HB, HA⟩ := hrel
    by_cases hlt : k < l.length
    · obtain ⟨ad, A1, c1, hA1, hx, hy, hc1, hf⟩ := HS.out k hlt _ HB.out
      subst hA1
      have h8k := H8.out k hlt
      have hA := HA.out
      rw [HDr.out k hlt, addsL_cons] at hA
      have HA2 := Lib.hid hA
      clear hA HA
      have HFk := Lib.hid hf
      clear hf
      generalize l.getD k (false, []) = s at *
      obtain ⟨d, c⟩ := s
      dsimp only at *
      obtain ⟨A0, c0, rfl⟩ := own_slice HO.out
      cases d with
      | true =>
        have HA3 := Lib.hid (show r = (addsL (l.drop (k + 1))).map (added ++ ·) from HA2.out)
        go_wp2
        go_roundw
        case rel => exact ⟨k + 1, vs, added, by omega, by go_num, by omega, HO.out.alloc _, HRw.out.below (((Below.refl _ _).alloc (HB.out.size) _).mono hBw), HB.out.alloc HB.out.size _, HA3.out⟩
        case measure => simp [intOf]; omega
      | false =>
        have HA3 := Lib.hid (show r = (if c = [] then some [[]] else (addsL (l.drop (k + 1))).map (c :: ·)).map (added ++ ·) from HA2.out)
        clear HA2
        have HFn := Lib.hid (fun h : c.length = 0 => List.eq_nil_of_length_eq_zero h)
        have HFp := Lib.hid (fun (h : ¬ c.length = 0) (e : c = []) => h (by rw [e]; rfl))
        generalize hcn : c.length = n at *
        have Hcn := Lib.hid hcn
        clear hcn
        by_cases h0 : n = 0
        · subst h0
          obtain rfl := HFn.out rfl
          have HA4 := Lib.hid (show r = some (added ++ [[]]) from HA3.out)
          clear HA3
          go_wp2_with (at_builtin; (refine wpList_append_own_at _ rfl (.tmp 15) (.tmp 18) 22 rfl w.heap.size 25 iI (.slice none 0 0) 1 24 Try.underlying22 HiI.out.1 HiI.out.2.1 HiI.out.2.2.1 HiI.out.2.2.2 rfl (by decide) _ _ _ rfl ((HO.out.alloc _).alloc _) ⟨wr.heap.size + 1, 0, none⟩ 1 1 [.slice A1 0 c1] rfl rfl (one_new _ _ (by simp)) (by simp [Value.oneCell']) ?_ ?_ ?_ ?_); (unfold maxLen; omega); omega; (exact base_alloc (HB.out.alloc HB.out.size _).size _); intro v2 w2 hown2 hgrow2 hnil2 hat2; obtain ⟨A2, k2, rfl⟩ := own_slice hown2; have HO2 := Lib.hid hown2; have hx2 := two_cell HO.out hgrow2; have HB2 := Lib.hid (below_push _ hgrow2 (HB.out.alloc HB.out.size _).size (fun j hj => (HO.out.lt j hj).1)); clear hown2 hgrow2 hnil2 hat2)
          go_ret2
          rw [HA4.out]
          exact ⟨_, vs ++ [.slice A1 0 c1], rfl, (HB.out.alloc HB.out.size _).trans HB2.out, by rw [List.length_append]; exact HO2.out, (HRw.out.below ((((Below.refl _ _).alloc HB.out.size _).trans HB2.out).mono hBw)).snoc rfl (Nat.zero_le _) (Kd.F_step HFk.out (fun k hk _ => ((Below.refl _ _).alloc HB.out.size _ |>.trans HB2.out).block k (Nat.lt_of_lt_of_le hk hBw)))⟩
        · have HA4 := Lib.hid (show r = (addsL (l.drop (k + 1))).map ((added ++ [c]) ++ ·) from by
            rw [HA3.out, if_neg (HFp.out h0), Option.map_map]
            congr 1
            funext t
            simp)
          clear HA3
          have h0i : ¬ ((n : Int) = 0) := by omega
          go_wp2_with (at_builtin; (refine wpList_append_own_at _ rfl (.tmp 15) (.tmp 18) 22 rfl w.heap.size 25 iI (.slice none 0 0) 1 24 Try.underlying22 HiI.out.1 HiI.out.2.1 HiI.out.2.2.1 HiI.out.2.2.2 rfl (by decide) _ _ _ rfl ((HO.out.alloc _).alloc _) ⟨wr.heap.size + 1, 0, none⟩ 1 1 [.slice A1 n c1] rfl rfl (one_new _ _ (by simp)) (by simp [Value.oneCell']) ?_ ?_ ?_ ?_); (unfold maxLen; omega); omega; (exact base_alloc (HB.out.alloc HB.out.size _).size _); intro v2 w2 hown2 hgrow2 hnil2 hat2; obtain ⟨A2, k2, rfl⟩ := own_slice hown2; have HO2 := Lib.hid hown2; have hx2 := two_cell HO.out hgrow2; have HB2 := Lib.hid (below_push _ hgrow2 (HB.out.alloc HB.out.size _).size (fun j hj => (HO.out.lt j hj).1)); clear hown2 hgrow2 hnil2 hat2)
          go_roundw
          case rel => exact ⟨k + 1, vs ++ [.slice A1 n c1], added ++ [c], by omega, by go_num, by simp; omega, by rw [List.length_append]; exact HO2.out, Lib.hid ((HRw.out.below ((((Below.refl _ _).alloc HB.out.size _).trans HB2.out).mono hBw)).snoc Hcn.out.symm hc1 (Kd.F_step HFk.out (fun k hk _ => (((Below.refl _ _).alloc HB.out.size _).trans HB2.out).block k (Nat.lt_of_lt_of_le hk hBw)))), (HB.out.alloc HB.out.size _).trans HB2.out, HA4.out⟩
          case measure => simp [intOf]; omega
    · obtain rfl : k = l.length := by omega
      have hE := HA.out
      rw [HEnd.out] at hE
      have HE := Lib.hid (show r = none from hE)
      clear hE
      go_wp2
      go_ret2
      rw [HE.out]
      exact ⟨_, [], rfl, HB.out, World.ownsRow_nil _ _ _ _, rfl, fun i h => absurd h (by simp)⟩
end Go.Proofs.Ytfljggodnnpeiaa.Trm
