/- Part of the proof of TrimRight: what the law uses of the text UB. -/
import Derived.Test.YtfljggodnnpeiaaZRUA
namespace Go.Proofs.Ytfljggodnnpeiaa.Spr
open Go.RowKit Go.Maps Go.Proofs.Ytfljggodnnpeiaa.Lit
set_option linter.unusedVariables false

structure Ok (S : St) : Prop where
  nd : S.ids.Nodup
  rg : ∀ v ∈ S.ids, 0 ≤ v ∧ v ≤ 1048576
  lnv : S.value.length = S.ids.length
  lw : S.why.length = S.ids.length
  li : S.inn.length = 2 * S.ids.length
  bv : ∀ x ∈ S.value, -1 ≤ x ∧ x ≤ 1
  tr : S.trail.length = (S.value.filter (· ≠ 0)).length
  lo : S.opn.length = S.clauses.length
  ln : S.on.length = S.clauses.length

theorem nodup_le : ∀ (n : Nat) (l : List Int), l.Nodup → (∀ v ∈ l, 0 ≤ v ∧ v < n) → l.length ≤ n
  | 0, l, _, hr => by
    cases l with
    | nil => simp
    | cons x t => have := hr x (by simp); omega
  | n + 1, l, hn, hr => by
    have h := nodup_le n (l.erase (n : Int)) (hn.erase _) (by
      intro v hv
      rw [hn.mem_erase_iff] at hv
      have := hr v hv.2
      have := hv.1
      omega)
    rw [List.length_erase] at h
    split at h <;> omega
theorem Ok.ids_le {S : St} (h : Ok S) : S.ids.length ≤ 1048577 :=
  nodup_le 1048577 _ h.nd (fun v hv => by have := h.rg v hv; omega)
theorem Ok.trail_le {S : St} (h : Ok S) : S.trail.length ≤ 1048577 := by
  have := h.ids_le
  have h2 := List.length_filter_le (fun x : Int => decide (x ≠ 0)) S.value
  have h3 := h.tr
  have h4 := h.lnv
  omega

theorem Ok.trail_ids {S : St} (h : Ok S) : S.trail.length ≤ S.ids.length := by
  have h2 := List.length_filter_le (fun x : Int => decide (x ≠ 0)) S.value
  have h3 := h.tr
  have h4 := h.lnv
  omega
def placeSt (S : St) (l : Int) : St := if S.ids.contains (lv l) = true then S else newPlace S (lv l)
theorem Ok.place {S : St} (h : Ok S) (l : Int) : Ok (placeSt S l) := by
  unfold placeSt
  by_cases hk : S.ids.contains (lv l) = true
  · rw [if_pos hk]; exact h
  · rw [if_neg hk]
    have hk' : lv l ∉ S.ids := by simpa using hk
    refine ⟨?_, ?_, by simp [newPlace, h.lnv], by simp [newPlace, h.lw], by simp [newPlace, h.li]; omega, ?_, ?_, h.lo, h.ln⟩
    · simp only [newPlace]
      rw [List.nodup_append]
      refine ⟨h.nd, by simp, ?_⟩
      intro a ha b hb e
      simp at hb
      subst hb; subst e
      exact hk' ha
    · intro v hv
      simp only [newPlace, List.mem_append, List.mem_singleton] at hv
      rcases hv with hv | rfl
      · exact h.rg v hv
      · exact lv_bd l
    · intro x hx
      simp only [newPlace, List.mem_append, List.mem_singleton] at hx
      rcases hx with hx | rfl
      · exact h.bv x hx
      · omega
    · simp only [newPlace, List.filter_append, List.length_append]
      rw [h.tr]; simp
theorem placeSt_has (S : St) (l : Int) : (placeSt S l).ids.contains (lv l) = true := by
  unfold placeSt
  by_cases hk : S.ids.contains (lv l) = true
  · rw [if_pos hk]; exact hk
  · rw [if_neg hk]; simp [newPlace]

theorem place_any {w : World} {B b : Nat} {τ : Nat → Nat} {V : Vals} {S : St} (R : Rep w B b τ V S) (h : Ok S) (l : Int) :
    Calls Try.prog 114 #[.pointer (some ⟨b, 0, none⟩), .int .i64 l] w fun e w' => e = .returned (.int .i64 (pix (placeSt S l).ids l)) ∧ Led w B b V.kp (placeSt S l) w' := by
  have hn := h.ids_le
  unfold placeSt
  by_cases hk : S.ids.contains (lv l) = true
  · rw [if_pos hk]
    refine (place_known R l hk (by omega)).mono ?_
    rintro e w' ⟨rfl, rfl⟩
    exact ⟨rfl, Led.mk R (Below.refl _ _) (Kp.refl _)⟩
  · rw [if_neg hk]
    exact place_new R l (by simpa using hk) (by omega) h.lnv h.lw h.li

def putOk (S : St) (l : Int) : Bool := decide (vl (placeSt S l) l ≠ -1)
def putNew (S : St) (l why : Int) : St :=
  { S with value := S.value.set (S.ids.idxOf (lv l)) (if l < 0 then -1 else 1), why := S.why.set (S.ids.idxOf (lv l)) why, trail := S.trail ++ [l] }
def putSt (S : St) (l why : Int) : St := if vl (placeSt S l) l = 0 then putNew (placeSt S l) l why else placeSt S l

theorem vl_cases {S : St} (h : Ok S) (l : Int) : vl S l = 1 ∨ vl S l = -1 ∨ vl S l = 0 := by
  unfold vl
  by_cases hk : S.ids.contains (lv l) = true
  · rw [if_pos hk]
    have hix : (S.ids.idxOf (lv l)) < S.ids.length := List.idxOf_lt_length_of_mem (by simpa using hk)
    have := h.lnv
    have hb : -1 ≤ S.value.getD (S.ids.idxOf (lv l)) 0 ∧ S.value.getD (S.ids.idxOf (lv l)) 0 ≤ 1 := by
      rw [List.getD_eq_getElem?_getD, List.getElem?_eq_getElem (by omega)]
      exact h.bv _ (List.getElem_mem _)
    split <;> omega
  · rw [if_neg hk]; simp

end Go.Proofs.Ytfljggodnnpeiaa.Spr

namespace Go.Proofs.Ytfljggodnnpeiaa.Spr
open Go.RowKit Go.Maps Go.Proofs.Ytfljggodnnpeiaa.Lit
set_option linter.unusedVariables false

theorem pix_half (ids : List Int) (l : Int) : pix ids l / 2 = (ids.idxOf (lv l) : Int) := by
  unfold pix; split <;> omega
theorem pix_ge (ids : List Int) (l : Int) : 0 ≤ pix ids l := by unfold pix; split <;> omega
theorem pix_le {S : St} (h : Ok S) (l : Int) (hk : S.ids.contains (lv l) = true) : pix S.ids l ≤ 2097153 := by
  have hix : (S.ids.idxOf (lv l)) < S.ids.length := List.idxOf_lt_length_of_mem (by simpa using hk)
  have := h.ids_le
  unfold pix; split <;> omega

set_option maxHeartbeats 1000000 in
set_option maxRecDepth 100000 in
theorem put_yes {w : World} {B b : Nat} {τ : Nat → Nat} {V : Vals} {S : St} (R : Rep w B b τ V S) (h : Ok S) (l why : Int) (h1 : vl (placeSt S l) l = 1) :
    Calls Try.prog 63 #[.pointer (some ⟨b, 0, none⟩), .int .i64 l, .int .i64 why] w fun e w' => e = .returned (.bool true) ∧ Led w B b V.kp (placeSt S l) w' := by
  have HP := Lib.hid (place_any R h l)
  have HV := Lib.hid (fun (w1 : World) (τ1 : Nat → Nat) (V1 : Vals) (R1 : Rep w1 B b τ1 V1 (placeSt S l)) => value_any R1 l (h.place l).lnv (h.place l).bv (by have := (h.place l).ids_le; omega))
  have H1 := Lib.hid h1
  clear h1 R
  generalize pix (placeSt S l).ids l = q at *
  go_enter Try.func63, Try.ntmps63
  go_wp2_with (first
    | (go_at_call 114; refine HP.out.mono ?_; rintro e w1 ⟨rfl, τ1, V1, R1, hb1, hp1⟩; have HR1 := Lib.hid R1; have HB1 := Lib.hid hb1; have HP1 := Lib.hid hp1; clear R1 hb1 hp1)
    | (go_at_call 60; refine (HV.out _ _ _ HR1.out).mono ?_; rintro e w' ⟨rfl, nq, rfl⟩; rw [H1.out]))
  go_ret
  exact ⟨rfl, (Led.mk HR1.out HB1.out HP1.out).drewN nq⟩

set_option maxHeartbeats 1000000 in
set_option maxRecDepth 100000 in
theorem put_no {w : World} {B b : Nat} {τ : Nat → Nat} {V : Vals} {S : St} (R : Rep w B b τ V S) (h : Ok S) (l why : Int) (h1 : vl (placeSt S l) l = -1) :
    Calls Try.prog 63 #[.pointer (some ⟨b, 0, none⟩), .int .i64 l, .int .i64 why] w fun e w' => e = .returned (.bool false) ∧ Led w B b V.kp (placeSt S l) w' := by
  have HP := Lib.hid (place_any R h l)
  have HV := Lib.hid (fun (w1 : World) (τ1 : Nat → Nat) (V1 : Vals) (R1 : Rep w1 B b τ1 V1 (placeSt S l)) => value_any R1 l (h.place l).lnv (h.place l).bv (by have := (h.place l).ids_le; omega))
  have H1 := Lib.hid h1
  clear h1 R
  generalize pix (placeSt S l).ids l = q at *
  go_enter Try.func63, Try.ntmps63
  go_wp2_with (first
    | (go_at_call 114; refine HP.out.mono ?_; rintro e w1 ⟨rfl, τ1, V1, R1, hb1, hp1⟩; have HR1 := Lib.hid R1; have HB1 := Lib.hid hb1; have HP1 := Lib.hid hp1; clear R1 hb1 hp1)
    | (go_at_call 60; refine (HV.out _ _ _ HR1.out).mono ?_; rintro e w' ⟨rfl, nq, rfl⟩; rw [H1.out]))
  go_ret
  exact ⟨rfl, (Led.mk HR1.out HB1.out HP1.out).drewN nq⟩

theorem Rep.slots {w : World} {B b : Nat} {τ : Nat → Nat} {V : Vals} {S : St} (R : Rep w B b τ V S) (h : Ok S) (p : Nat) (hp : p < S.ids.length) :
    ∃ g c gw cw, V.vv = .slice (some ⟨g, 0, none⟩) S.ids.length c ∧ V.vw = .slice (some ⟨gw, 0, none⟩) S.ids.length cw ∧ B ≤ g ∧ B ≤ gw ∧
      w.cell? ⟨b, 5, none⟩ = some (.slice (some ⟨g, 0, none⟩) S.ids.length c) ∧ w.cell? ⟨b, 6, none⟩ = some (.slice (some ⟨gw, 0, none⟩) S.ids.length cw) ∧ w.cell? ⟨b, 7, none⟩ = some V.vt ∧ (∀ i, w.frozen? ⟨b, i, none⟩ = false) ∧
      w.cell? ⟨g, p, none⟩ = some (.int .i8 (S.value.getD p 0)) ∧ w.frozen? ⟨g, p, none⟩ = false ∧ w.cell? ⟨gw, p, none⟩ = some (.int .i64 (S.why.getD p 0)) ∧ w.frozen? ⟨gw, p, none⟩ = false ∧
      g ≠ b ∧ gw ≠ b ∧ g ≠ gw ∧ b ≠ g ∧ b ≠ gw ∧ gw ≠ g := by
  obtain ⟨g, c, hvv, hBg, htg, hlg, hcg, hcell, hfz⟩ := R.rv.form (by rw [ints_len, h.lnv]; omega)
  obtain ⟨gw, cw, hvw, hBgw, htgw, hlgw, hcgw, hcellw, hfzw⟩ := R.rw.form (by rw [ints_len, h.lw]; omega)
  rw [ints_len, h.lnv] at hvv
  rw [ints_len, h.lw] at hvw
  obtain ⟨⟨d0, d1, d2, d3, d4, d5, d6, d7, d8, d9⟩, hfb⟩ := cells_at R.blk
  rw [hvv] at d5
  rw [hvw] at d6
  have n1 : g ≠ b := fun e => by have := R.tb; rw [← e, htg] at this; omega
  have n2 : gw ≠ b := fun e => by have := R.tb; rw [← e, htgw] at this; omega
  have n3 : g ≠ gw := fun e => by rw [e, htgw] at htg; omega
  exact ⟨g, c, gw, cw, hvv, hvw, hBg, hBgw, d5, d6, d7, hfb, hcell p _ (ints_get (by rw [h.lnv]; exact hp)), hfz p, hcellw p _ (ints_get (by rw [h.lw]; exact hp)), hfzw p, n1, n2, n3, n1.symm, n2.symm, n3.symm⟩

set_option maxHeartbeats 2000000 in
set_option maxRecDepth 100000 in
theorem put_new {w : World} {B b : Nat} {τ : Nat → Nat} {V : Vals} {S : St} (R : Rep w B b τ V S) (h : Ok S) (l why : Int) (h1 : vl (placeSt S l) l = 0) :
    Calls Try.prog 63 #[.pointer (some ⟨b, 0, none⟩), .int .i64 l, .int .i64 why] w fun e w' => e = .returned (.bool true) ∧ Led w B b V.kp (putNew (placeSt S l) l why) w' := by
  obtain ⟨i3, hi3, z31, z32, z33⟩ := info_parts info3
  have Hi3 := Lib.hid (And.intro hi3 (And.intro z31 (And.intro z32 z33)))
  clear hi3 z31 z32 z33
  have HP := Lib.hid (place_any R h l)
  have HV := Lib.hid (fun (w1 : World) (τ1 : Nat → Nat) (V1 : Vals) (R1 : Rep w1 B b τ1 V1 (placeSt S l)) => value_any R1 l (h.place l).lnv (h.place l).bv (by have := (h.place l).ids_le; omega))
  have H1 := Lib.hid h1
  have hk := placeSt_has S l
  have HO := Lib.hid (h.place l)
  have hq := pix_half (placeSt S l).ids l
  have hq0 := pix_ge (placeSt S l).ids l
  have hq1 := pix_le (h.place l) l hk
  have hix : ((placeSt S l).ids.idxOf (lv l)) < (placeSt S l).ids.length := List.idxOf_lt_length_of_mem (by simpa using hk)
  have hlen := (h.place l).ids_le
  unfold putNew
  clear h1 R hk h
  generalize pix (placeSt S l).ids l = q at *
  generalize placeSt S l = S1 at *
  generalize S1.ids.idxOf (lv l) = p at *
  have hp0 : 0 ≤ (p : Int) := by omega
  have hp1 : (p : Int) < (S1.ids.length : Int) := by omega
  by_cases hlt : l < 0
  · rw [if_pos hlt]
    go_enter Try.func63, Try.ntmps63
    go_wp2_with (first
      | (go_at_call 114; refine HP.out.mono ?_; rintro e w1 ⟨rfl, τ1, V1, R1, hb1, hp1⟩; have HR1 := Lib.hid R1; have HB1 := Lib.hid hb1; have HP1 := Lib.hid hp1; clear R1 hb1 hp1)
      | (go_at_call 60; refine (HV.out _ _ _ HR1.out).mono ?_; rintro e w' ⟨rfl, nq, rfl⟩; rw [H1.out]; obtain ⟨g, c, gw, cw, hvv, hvw, hBg, hBgw, d5, d6, d7, hfb, x5, f5, x6, f6, n1, n2, n3, n4, n5, n6⟩ := HR1.out.slots HO.out p hix; have HR3 := Lib.hid ((((HR1.out.stay (Stay.drewN _ _ _ nq)).put_vv hvv p 1).put_vv hvv p (-1)).put_vw hvw p why); have HB3 := Lib.hid ((((below_drewN HB1.out nq).setCell (p := ⟨g, p, none⟩) hBg (.int .i8 1)).setCell (p := ⟨g, p, none⟩) hBg (.int .i8 (-1))).setCell (p := ⟨gw, p, none⟩) hBgw (.int .i64 why)); clear hvv hvw)
      | (at_builtin; refine wpList_append_own_at _ rfl (.tmp 46) (.tmp 48) 25 rfl B 3 i3 (.int .i64 0) 1 8 Try.underlying25 Hi3.out.1 Hi3.out.2.1 Hi3.out.2.2.1 Hi3.out.2.2.2 rfl (by decide) _ _ _ rfl (HR3.out.rt.own.alloc _) ⟨w1.heap.size, 0, none⟩ 1 1 [.int .i64 l] rfl rfl (one_new _ _ (by simp [World.setCell])) (by simp [Value.oneCell']) ?_ ?_ ?_ ?_; (have := HO.out.trail_le; simp only [ints_len]; unfold maxLen; omega); (have := HO.out.trail_le; simp only [ints_len]; omega); (exact base_alloc HR3.out.base _); intro v4 w4 hown4 hgrow4 hnil4 hat4; obtain ⟨A4, k4, rfl⟩ := own_slice hown4; have hs4 := stay_push _ hgrow4 HR3.out.rt.tag; have HR4 := Lib.hid (HR3.out.set_vt hs4 ⟨row_snoc (x := l) hown4, tag_push _ hat4 HR3.out.rt.tag⟩); have HB4 := Lib.hid (HB3.out.trans (below_push _ hgrow4 HR3.out.base (own_base HR3.out.rt.own))); obtain ⟨⟨e0, e1, e2, e3, e4, e5, e6, e7, e8, e9⟩, hf4⟩ := cells_at ((hs4.blk b HR3.out.lt (by rw [HR3.out.tb]; decide)).trans HR3.out.blk); clear e0 e1 e2 e3 e4 e5 e6 e8 e9 hown4 hgrow4 hnil4 hat4 hs4))
    go_ret
    have HR5 := HR4.out
    try simp only [List.set_set] at HR5
    exact ⟨rfl, Led.mk HR5 (HB4.out.trans ((Below.refl B _).setCell (p := ⟨b, 7, none⟩) HR1.out.hb _)) HP1.out⟩
  · rw [if_neg hlt]
    go_enter Try.func63, Try.ntmps63
    go_wp2_with (first
      | (go_at_call 114; refine HP.out.mono ?_; rintro e w1 ⟨rfl, τ1, V1, R1, hb1, hp1⟩; have HR1 := Lib.hid R1; have HB1 := Lib.hid hb1; have HP1 := Lib.hid hp1; clear R1 hb1 hp1)
      | (go_at_call 60; refine (HV.out _ _ _ HR1.out).mono ?_; rintro e w' ⟨rfl, nq, rfl⟩; rw [H1.out]; obtain ⟨g, c, gw, cw, hvv, hvw, hBg, hBgw, d5, d6, d7, hfb, x5, f5, x6, f6, n1, n2, n3, n4, n5, n6⟩ := HR1.out.slots HO.out p hix; have HR3 := Lib.hid (((HR1.out.stay (Stay.drewN _ _ _ nq)).put_vv hvv p 1).put_vw hvw p why); have HB3 := Lib.hid (((below_drewN HB1.out nq).setCell (p := ⟨g, p, none⟩) hBg (.int .i8 1)).setCell (p := ⟨gw, p, none⟩) hBgw (.int .i64 why)); clear hvv hvw)
      | (at_builtin; refine wpList_append_own_at _ rfl (.tmp 46) (.tmp 48) 25 rfl B 3 i3 (.int .i64 0) 1 8 Try.underlying25 Hi3.out.1 Hi3.out.2.1 Hi3.out.2.2.1 Hi3.out.2.2.2 rfl (by decide) _ _ _ rfl (HR3.out.rt.own.alloc _) ⟨w1.heap.size, 0, none⟩ 1 1 [.int .i64 l] rfl rfl (one_new _ _ (by simp [World.setCell])) (by simp [Value.oneCell']) ?_ ?_ ?_ ?_; (have := HO.out.trail_le; simp only [ints_len]; unfold maxLen; omega); (have := HO.out.trail_le; simp only [ints_len]; omega); (exact base_alloc HR3.out.base _); intro v4 w4 hown4 hgrow4 hnil4 hat4; obtain ⟨A4, k4, rfl⟩ := own_slice hown4; have hs4 := stay_push _ hgrow4 HR3.out.rt.tag; have HR4 := Lib.hid (HR3.out.set_vt hs4 ⟨row_snoc (x := l) hown4, tag_push _ hat4 HR3.out.rt.tag⟩); have HB4 := Lib.hid (HB3.out.trans (below_push _ hgrow4 HR3.out.base (own_base HR3.out.rt.own))); obtain ⟨⟨e0, e1, e2, e3, e4, e5, e6, e7, e8, e9⟩, hf4⟩ := cells_at ((hs4.blk b HR3.out.lt (by rw [HR3.out.tb]; decide)).trans HR3.out.blk); clear e0 e1 e2 e3 e4 e5 e6 e8 e9 hown4 hgrow4 hnil4 hat4 hs4))
    go_ret
    have HR5 := HR4.out
    try simp only [List.set_set] at HR5
    exact ⟨rfl, Led.mk HR5 (HB4.out.trans ((Below.refl B _).setCell (p := ⟨b, 7, none⟩) HR1.out.hb _)) HP1.out⟩

end Go.Proofs.Ytfljggodnnpeiaa.Spr

namespace Go.Proofs.Ytfljggodnnpeiaa.Spr
open Go.RowKit Go.Maps Go.Proofs.Ytfljggodnnpeiaa.Lit
set_option linter.unusedVariables false

theorem Ok.put {S : St} (h : Ok S) (l why : Int) : Ok (putSt S l why) := by
  unfold putSt
  by_cases hv : vl (placeSt S l) l = 0
  · rw [if_pos hv]
    have h1 := h.place l
    have hk := placeSt_has S l
    generalize placeSt S l = S1 at *
    have hix : (S1.ids.idxOf (lv l)) < S1.ids.length := List.idxOf_lt_length_of_mem (by simpa using hk)
    have hvz : S1.value.getD (S1.ids.idxOf (lv l)) 0 = 0 := by
      unfold vl at hv; rw [if_pos hk] at hv; split at hv <;> omega
    have hlv := h1.lnv
    unfold putNew
    refine ⟨h1.nd, h1.rg, by simp [hlv], by simp [h1.lw], h1.li, ?_, ?_, h1.lo, h1.ln⟩
    · intro x hx
      rcases List.mem_or_eq_of_mem_set hx with hx | rfl
      · exact h1.bv x hx
      · split <;> omega
    · simp only [List.length_append, List.length_singleton, h1.tr]
      generalize S1.ids.idxOf (lv l) = p at *
      have hx : (if l < 0 then (-1 : Int) else 1) ≠ 0 := by split <;> omega
      generalize (if l < 0 then (-1 : Int) else 1) = x at *
      have hp : p < S1.value.length := by omega
      rw [List.getD_eq_getElem?_getD, List.getElem?_eq_getElem hp] at hvz
      simp only [Option.getD_some] at hvz
      generalize S1.value = vs at *
      clear h1 hk hv hix hlv
      have e : vs = vs.take p ++ (vs[p] :: vs.drop (p + 1)) := by rw [List.getElem_cons_drop]; simp
      have e2 : vs.set p x = vs.take p ++ (x :: vs.drop (p + 1)) := by
        rw [List.set_eq_take_append_cons_drop, if_pos hp]
      rw [e2]
      conv => lhs; rw [e]
      simp [List.filter_append, hvz, hx]
      omega
  · rw [if_neg hv]; exact h.place l

theorem put_any {w : World} {B b : Nat} {τ : Nat → Nat} {V : Vals} {S : St} (R : Rep w B b τ V S) (h : Ok S) (l why : Int) :
    Calls Try.prog 63 #[.pointer (some ⟨b, 0, none⟩), .int .i64 l, .int .i64 why] w fun e w' => e = .returned (.bool (putOk S l)) ∧ Led w B b V.kp (putSt S l why) w' := by
  unfold putOk putSt
  rcases vl_cases (h.place l) l with h1 | h1 | h1
  · rw [h1]; exact put_yes R h l why h1
  · rw [h1]; exact put_no R h l why h1
  · rw [h1]; exact put_new R h l why h1

def unitSt (S : St) (n : Nat) (C : List Int) : St :=
  match C.find? (fun l => decide (vl S l ≥ 0)) with
  | some l => putSt S l n
  | none => S
def lookSt (S : St) (n : Nat) : St :=
  if S.on.getD n 0 > 0 ∨ S.opn.getD n 0 > 1 then S
  else if S.opn.getD n 0 = 0 then { S with bad := n }
  else unitSt S n (S.clauses.getD n [])
theorem unitSt_drop {S : St} {n : Nat} {C : List Int} {k : Nat} (h : C.find? (fun l => decide (vl S l ≥ 0)) = (C.drop k).find? (fun l => decide (vl S l ≥ 0))) (hk : k < C.length) (hv : vl S (C.getD k 0) ≥ 0) : unitSt S n C = putSt S (C.getD k 0) n := by
  unfold unitSt
  have e : C.getD k 0 = C[k] := by rw [List.getD_eq_getElem?_getD, List.getElem?_eq_getElem hk]; rfl
  rw [h, List.drop_eq_getElem_cons hk, List.find?_cons_of_pos (by rw [← e]; simpa using hv), e]
theorem unitSt_end {S : St} {n : Nat} {C : List Int} {k : Nat} (h : C.find? (fun l => decide (vl S l ≥ 0)) = (C.drop k).find? (fun l => decide (vl S l ≥ 0))) (hk : ¬ k < C.length) : unitSt S n C = S := by
  unfold unitSt
  rw [h, List.drop_eq_nil_of_le (by omega)]
  rfl
theorem find_drop {S : St} {C : List Int} {k : Nat} (h : C.find? (fun l => decide (vl S l ≥ 0)) = (C.drop k).find? (fun l => decide (vl S l ≥ 0))) (hk : k < C.length) (hv : ¬ vl S (C.getD k 0) ≥ 0) : C.find? (fun l => decide (vl S l ≥ 0)) = (C.drop (k + 1)).find? (fun l => decide (vl S l ≥ 0)) := by
  have e : C.getD k 0 = C[k] := by rw [List.getD_eq_getElem?_getD, List.getElem?_eq_getElem hk]; rfl
  rw [h, List.drop_eq_getElem_cons hk, List.find?_cons_of_neg (by rw [← e]; simpa using hv)]

end Go.Proofs.Ytfljggodnnpeiaa.Spr

namespace Go.Proofs.Ytfljggodnnpeiaa.Spr
open Go.RowKit Go.Maps Go.Proofs.Ytfljggodnnpeiaa.Lit
set_option linter.unusedVariables false

theorem Rep.two {w : World} {B b : Nat} {τ : Nat → Nat} {V : Vals} {S : St} (R : Rep w B b τ V S) (h : Ok S) (n : Nat) (hn : n < S.clauses.length) :
    ∃ g c g' c', w.cell? ⟨b, 4, none⟩ = some (.slice (some ⟨g, 0, none⟩) S.clauses.length c) ∧ w.cell? ⟨b, 3, none⟩ = some (.slice (some ⟨g', 0, none⟩) S.clauses.length c') ∧ (∀ i, w.frozen? ⟨b, i, none⟩ = false) ∧
      w.cell? ⟨g, n, none⟩ = some (.int .i64 (S.on.getD n 0)) ∧ w.cell? ⟨g', n, none⟩ = some (.int .i64 (S.opn.getD n 0)) := by
  obtain ⟨g, c, h1, _, _, _, _, hcell, _⟩ := R.ron.form (by rw [ints_len, h.ln]; omega)
  obtain ⟨g', c', h1', _, _, _, _, hcell', _⟩ := R.ro.form (by rw [ints_len, h.lo]; omega)
  rw [ints_len, h.ln] at h1
  rw [ints_len, h.lo] at h1'
  obtain ⟨⟨d0, d1, d2, d3, d4, d5, d6, d7, d8, d9⟩, hfb⟩ := cells_at R.blk
  rw [h1] at d4
  rw [h1'] at d3
  exact ⟨g, c, g', c', d4, d3, hfb, hcell n _ (ints_get (by rw [h.ln]; exact hn)), hcell' n _ (ints_get (by rw [h.lo]; exact hn))⟩

theorem Rep.clause {w : World} {B b : Nat} {τ : Nat → Nat} {V : Vals} {S : St} (R : Rep w B b τ V S) (n : Nat) (hn : n < S.clauses.length) :
    ∃ g c A ca, w.cell? ⟨b, 1, none⟩ = some (.slice (some ⟨g, 0, none⟩) S.clauses.length c) ∧ w.cell? ⟨g, n, none⟩ = some (.slice A (S.clauses.getD n []).length ca) ∧
      ∀ k, k < (S.clauses.getD n []).length → ∃ g', A = some ⟨g', 0, none⟩ ∧ w.cell? ⟨g', k, none⟩ = some (.int .i64 ((S.clauses.getD n []).getD k 0)) := by
  have hl := R.lc
  obtain ⟨g, c, h1, _, _, _, _, hcell, _⟩ := R.rc.form (by omega)
  obtain ⟨⟨d0, d1, d2, d3, d4, d5, d6, d7, d8, d9⟩, hfb⟩ := cells_at R.blk
  rw [h1, hl] at d1
  have e1 : V.cl[n]? = some V.cl[n] := List.getElem?_eq_getElem (by omega)
  have e2 : S.clauses[n]? = some (S.clauses.getD n []) := by rw [List.getD_eq_getElem?_getD, List.getElem?_eq_getElem hn]; rfl
  have hr := R.cl n _ _ e1 e2
  obtain ⟨A, ca, hv⟩ := own_slice hr.own
  have hx := hcell n _ e1
  rw [hv, ints_len] at hx
  refine ⟨g, c, A, ca, d1, hx, fun k hk => ?_⟩
  obtain ⟨g', c', hv', _, _, _, _, hcell', _⟩ := hr.form (by rw [ints_len]; omega)
  rw [hv'] at hv
  injection hv with hA
  exact ⟨g', hA.symm, hcell' k _ (ints_get hk)⟩

set_option maxHeartbeats 1000000 in
set_option maxRecDepth 100000 in
theorem look_on {w : World} {B b : Nat} {τ : Nat → Nat} {V : Vals} {S : St} (R : Rep w B b τ V S) (h : Ok S) (n : Nat) (hn : n < S.clauses.length) (hm : S.clauses.length ≤ 9223372036854775807) (h1 : S.on.getD n 0 > 0 ∨ S.opn.getD n 0 > 1) :
    Calls Try.prog 115 #[.pointer (some ⟨b, 0, none⟩), .int .i64 n] w fun e w' => e = .returned (.tuple #[]) ∧ w = w' := by
  obtain ⟨g, c, g', c', d4, d3, hfb, x4, x3⟩ := R.two h n hn
  have hn0 : 0 ≤ (n : Int) := by omega
  have hn1 : (n : Int) < (S.clauses.length : Int) := by omega
  clear R h
  generalize S.on.getD n 0 = x at *
  generalize S.opn.getD n 0 = y at *
  by_cases hx : x > 0
  · clear h1
    go_enter Try.func115, Try.ntmps115
    go_wp2
    refine bodyPost_ret (results_none rfl _ _ _) rfl ?_
    exact ⟨rfl, rfl⟩
  · have hy : y > 1 := by omega
    clear h1
    go_enter Try.func115, Try.ntmps115
    go_wp2
    refine bodyPost_ret (results_none rfl _ _ _) rfl ?_
    exact ⟨rfl, rfl⟩

set_option maxHeartbeats 1000000 in
set_option maxRecDepth 100000 in
theorem look_bad {w : World} {B b : Nat} {τ : Nat → Nat} {V : Vals} {S : St} (R : Rep w B b τ V S) (h : Ok S) (n : Nat) (hn : n < S.clauses.length) (hm : S.clauses.length ≤ 9223372036854775807) (h1 : ¬ (S.on.getD n 0 > 0 ∨ S.opn.getD n 0 > 1)) (h2 : S.opn.getD n 0 = 0) :
    Calls Try.prog 115 #[.pointer (some ⟨b, 0, none⟩), .int .i64 n] w fun e w' => e = .returned (.tuple #[]) ∧ Led w B b V.kp { S with bad := n } w' := by
  obtain ⟨g, c, g', c', d4, d3, hfb, x4, x3⟩ := R.two h n hn
  obtain ⟨⟨_, _, _, _, _, _, _, _, _, d9⟩, _⟩ := cells_at R.blk
  have hn0 : 0 ≤ (n : Int) := by omega
  have hn1 : (n : Int) < (S.clauses.length : Int) := by omega
  have HR := Lib.hid (R.set_bad n)
  have HB := R.hb
  clear R h
  rw [h2] at x3
  generalize S.on.getD n 0 = x at *
  have hx : ¬ (0 < x) := by omega
  clear h1 h2
  go_enter Try.func115, Try.ntmps115
  go_wp2
  refine bodyPost_ret (results_none rfl _ _ _) rfl ?_
  exact ⟨rfl, Led.mk HR.out ((Below.refl B _).setCell (p := ⟨b, 9, none⟩) HB _) (Kp.refl _)⟩

set_option maxHeartbeats 1000000 in
set_option maxRecDepth 100000 in
theorem look_unit {w : World} {B b : Nat} {τ : Nat → Nat} {V : Vals} {S : St} (R : Rep w B b τ V S) (h : Ok S) (n : Nat) (hn : n < S.clauses.length) (hm : S.clauses.length ≤ 9223372036854775807) (h1 : ¬ (S.on.getD n 0 > 0 ∨ S.opn.getD n 0 > 1)) (h2 : S.opn.getD n 0 ≠ 0)
    (hcl : (S.clauses.getD n []).length ≤ 9223372036854775807) :
    Calls Try.prog 115 #[.pointer (some ⟨b, 0, none⟩), .int .i64 n] w fun e w' => e = .returned (.tuple #[]) ∧
      Led w B b V.kp (unitSt S n (S.clauses.getD n [])) w' := by
  obtain ⟨g, c, g', c', d4, d3, hfb, x4, x3⟩ := R.two h n hn
  obtain ⟨gc, cc, A, ca, d1, xc, hrow⟩ := R.clause n hn
  have hn0 : 0 ≤ (n : Int) := by omega
  have hn1 : (n : Int) < (S.clauses.length : Int) := by omega
  have HV := Lib.hid (fun (q : Nat) (l : Int) => value_any (R.stay (Stay.drewN w τ _ q)) l h.lnv h.bv (by have := h.ids_le; omega))
  have HP := Lib.hid (fun (q : Nat) (l : Int) => put_any (R.stay (Stay.drewN w τ _ q)) h l n)
  have HR := Lib.hid R
  clear R h
  generalize S.on.getD n 0 = x at *
  generalize S.opn.getD n 0 = y at *
  generalize S.clauses.getD n [] = C at *
  have hx : ¬ (0 < x) := by omega
  have hy : ¬ (1 < y) := by omega
  have hyb : (y == 0) = false := by simpa using h2
  clear h1 h2
  go_enter Try.func115, Try.ntmps115
  go_wp2
  go_loopw [44] (fun i wr => ∃ k q : Nat, k ≤ C.length ∧ i = .int .i64 k ∧ wr = w.drewN q ∧ Hid (C.find? (fun l => decide (vl S l ≥ 0)) = (C.drop k).find? (fun l => decide (vl S l ≥ 0)))) (fun i _ => C.length - (intOf i).toNat)
  case atStart => exact ⟨0, 0, Nat.zero_le _, rfl, rfl, rfl⟩
  case round =>
    obtain ⟨k, q, hk, rfl, rfl, hf⟩ := hrel
    by_cases hlt : k < C.length
    · obtain ⟨ga, hA, xk⟩ := hrow k hlt
      clear hrow
      subst hA
      by_cases hv : vl S (C.getD k 0) ≥ 0
      · have HE := Lib.hid (unitSt_drop (n := n) hf.out hlt hv)
        clear hf
        generalize C.getD k 0 = l at *
        generalize hx : vl S l = x at *
        have HX := Lib.hid hx
        clear hx
        go_wp2_with (first
          | (go_at_call 60; refine (HV.out _ _).mono ?_; rintro e w' ⟨rfl, nq, rfl⟩; rw [HX.out])
          | (go_at_call 63; refine (HP.out _ _).mono ?_; rintro e w' ⟨rfl, hl⟩; have HL := Lib.hid hl; clear hl))
        refine bodyPost_ret (results_none rfl _ _ _) rfl ⟨rfl, ?_⟩
        rw [HE.out]
        exact HL.out.after (drawn_below _ _ _) (Kp.refl _)
      · have HF := Lib.hid (find_drop hf.out hlt hv)
        clear hf
        have hv' : vl S (C.getD k 0) < 0 := by omega
        clear hv
        generalize C.getD k 0 = l at *
        generalize hx : vl S l = x at *
        have HX := Lib.hid hx
        clear hx
        go_wp2_with (first
          | (go_at_call 60; refine (HV.out _ _).mono ?_; rintro e w' ⟨rfl, nq, rfl⟩; rw [HX.out]))
        go_roundw
        case rel => exact ⟨k + 1, q + nq, by omega, by go_num, by simp, HF.out⟩
        case measure => simp [intOf]; omega
    · have HE := Lib.hid (unitSt_end (n := n) hf.out hlt)
      clear hf hrow
      go_wp2
      refine bodyPost_end (results_none rfl _ _ _) rfl ⟨rfl, ?_⟩
      rw [HE.out]
      exact (Led.mk HR.out (Below.refl _ _) (Kp.refl _)).drewN _

theorem look_any {w : World} {B b : Nat} {τ : Nat → Nat} {V : Vals} {S : St} (R : Rep w B b τ V S) (h : Ok S) (n : Nat) (hn : n < S.clauses.length) (hm : S.clauses.length ≤ 9223372036854775807) (hcl : (S.clauses.getD n []).length ≤ 9223372036854775807) :
    Calls Try.prog 115 #[.pointer (some ⟨b, 0, none⟩), .int .i64 n] w fun e w' => e = .returned (.tuple #[]) ∧ Led w B b V.kp (lookSt S n) w' := by
  unfold lookSt
  by_cases h1 : S.on.getD n 0 > 0 ∨ S.opn.getD n 0 > 1
  · rw [if_pos h1]
    refine (look_on R h n hn hm h1).mono ?_
    rintro e w' ⟨rfl, rfl⟩
    exact ⟨rfl, Led.mk R (Below.refl _ _) (Kp.refl _)⟩
  · rw [if_neg h1]
    by_cases h2 : S.opn.getD n 0 = 0
    · rw [if_pos h2]; exact look_bad R h n hn hm h1 h2
    · rw [if_neg h2]; exact look_unit R h n hn hm h1 h2 hcl

end Go.Proofs.Ytfljggodnnpeiaa.Spr

namespace Go.Proofs.Ytfljggodnnpeiaa.Spr
open Go.RowKit Go.Maps Go.Proofs.Ytfljggodnnpeiaa.Lit
set_option linter.unusedVariables false

structure Good (S : St) : Prop where
  ok : Ok S
  tk : ∀ l ∈ S.trail, S.ids.contains (lv l) = true
  tf : ∀ l ∈ S.trail, fm l = true
  cf : ∀ c ∈ S.clauses, ∀ l ∈ c, fm l = true
  ir : ∀ c ∈ S.inn, ∀ n ∈ c, 0 ≤ n ∧ n < S.clauses.length
  dn : 0 ≤ S.done ∧ S.done ≤ S.trail.length

theorem placeSt_fields (S : St) (l : Int) : (placeSt S l).clauses = S.clauses ∧ (placeSt S l).opn = S.opn ∧ (placeSt S l).on = S.on ∧ (placeSt S l).trail = S.trail ∧ (placeSt S l).done = S.done ∧ (placeSt S l).bad = S.bad ∧ (∀ v, S.ids.contains v = true → (placeSt S l).ids.contains v = true) ∧ (∀ c ∈ (placeSt S l).inn, c ∈ S.inn ∨ c = []) := by
  unfold placeSt
  by_cases hk : S.ids.contains (lv l) = true
  · rw [if_pos hk]
    exact ⟨rfl, rfl, rfl, rfl, rfl, rfl, fun _ h => h, fun c h => .inl h⟩
  · rw [if_neg hk]
    refine ⟨rfl, rfl, rfl, rfl, rfl, rfl, fun v h => ?_, fun c h => ?_⟩
    · simp only [newPlace, List.contains_iff_mem, List.mem_append] at h ⊢
      exact .inl h
    · simp only [newPlace, List.mem_append, List.mem_cons, List.not_mem_nil, or_false, or_self] at h
      exact h

theorem Good.place {S : St} (h : Good S) (l : Int) : Good (placeSt S l) := by
  obtain ⟨e1, e2, e3, e4, e5, e6, e7, e8⟩ := placeSt_fields S l
  refine ⟨h.ok.place l, ?_, ?_, ?_, ?_, ?_⟩
  · rw [e4]; exact fun x hx => e7 _ (h.tk x hx)
  · rw [e4]; exact h.tf
  · rw [e1]; exact h.cf
  · intro c hc n hn
    rw [e1]
    rcases e8 c hc with hc | rfl
    · exact h.ir c hc n hn
    · simp at hn
  · rw [e4, e5]; exact h.dn

theorem putSt_fields (S : St) (l why : Int) : (putSt S l why).clauses = S.clauses ∧ (putSt S l why).opn = S.opn ∧ (putSt S l why).on = S.on ∧ (putSt S l why).done = S.done ∧ (putSt S l why).bad = S.bad ∧ (putSt S l why).ids = (placeSt S l).ids ∧ (putSt S l why).inn = (placeSt S l).inn ∧ ((putSt S l why).trail = S.trail ∨ (putSt S l why).trail = S.trail ++ [l]) := by
  obtain ⟨e1, e2, e3, e4, e5, e6, e7, e8⟩ := placeSt_fields S l
  unfold putSt
  by_cases hv : vl (placeSt S l) l = 0
  · rw [if_pos hv]
    exact ⟨e1, e2, e3, e5, e6, rfl, rfl, .inr (by simp [putNew, e4])⟩
  · rw [if_neg hv]
    exact ⟨e1, e2, e3, e5, e6, rfl, rfl, .inl e4⟩

theorem Good.put {S : St} (h : Good S) (l why : Int) (hl : fm l = true) : Good (putSt S l why) := by
  obtain ⟨e1, e2, e3, e4, e5, e6, e7, e8⟩ := putSt_fields S l why
  have hp := h.place l
  obtain ⟨f1, _, _, f4, f5, _⟩ := placeSt_fields S l
  refine ⟨h.ok.put l why, ?_, ?_, ?_, ?_, ?_⟩
  · intro x hx
    rw [e6]
    rcases e8 with e8 | e8 <;> rw [e8] at hx
    · exact hp.tk x (by rw [f4]; exact hx)
    · rcases List.mem_append.1 hx with hx | hx
      · exact hp.tk x (by rw [f4]; exact hx)
      · simp at hx; subst hx; exact placeSt_has S x
  · intro x hx
    rcases e8 with e8 | e8 <;> rw [e8] at hx
    · exact h.tf x hx
    · rcases List.mem_append.1 hx with hx | hx
      · exact h.tf x hx
      · simp at hx; subst hx; exact hl
  · rw [e1]; exact h.cf
  · rw [e7, e1]; intro c hc n hn; have := hp.ir c hc n hn; rwa [f1] at this
  · rw [e4]
    have := h.dn
    rcases e8 with e8 | e8 <;> rw [e8]
    · exact this
    · simp; omega

theorem lookSt_fields (S : St) (n : Nat) : (lookSt S n).clauses = S.clauses ∧ (lookSt S n).opn = S.opn ∧ (lookSt S n).on = S.on ∧ (lookSt S n).done = S.done := by
  unfold lookSt
  split
  · exact ⟨rfl, rfl, rfl, rfl⟩
  · split
    · exact ⟨rfl, rfl, rfl, rfl⟩
    · unfold unitSt
      split
      · exact ⟨(putSt_fields S _ _).1, (putSt_fields S _ _).2.1, (putSt_fields S _ _).2.2.1, (putSt_fields S _ _).2.2.2.1⟩
      · exact ⟨rfl, rfl, rfl, rfl⟩

theorem Good.look {S : St} (h : Good S) (n : Nat) (hn : n < S.clauses.length) : Good (lookSt S n) := by
  unfold lookSt
  split
  · exact h
  · split
    · exact ⟨⟨h.ok.nd, h.ok.rg, h.ok.lnv, h.ok.lw, h.ok.li, h.ok.bv, h.ok.tr, h.ok.lo, h.ok.ln⟩, h.tk, h.tf, h.cf, h.ir, h.dn⟩
    · unfold unitSt
      split
      · rename_i l hl
        refine h.put l n (h.cf (S.clauses.getD n []) ?_ l (List.mem_of_find?_eq_some hl))
        rw [List.getD_eq_getElem?_getD, List.getElem?_eq_getElem hn]
        exact List.getElem_mem _
      · exact h

def beginF (S : St) (k : Nat) : St := (List.range k).foldl lookSt S
theorem beginF_succ (S : St) (k : Nat) : beginF S (k + 1) = lookSt (beginF S k) k := by
  simp [beginF, List.range_succ, List.foldl_append]
theorem beginF_clauses (S : St) : ∀ k, (beginF S k).clauses = S.clauses
  | 0 => rfl
  | k + 1 => by rw [beginF_succ, (lookSt_fields _ _).1]; exact beginF_clauses S k
theorem Good.begin_ {S : St} (h : Good S) : ∀ k, k ≤ S.clauses.length → Good (beginF S k)
  | 0, _ => h
  | k + 1, hk => by
    rw [beginF_succ]
    exact (h.begin_ k (by omega)).look k (by rw [beginF_clauses]; omega)
def beginSt (S : St) : St := beginF S S.clauses.length

def upOn (S : St) (n : Int) : St := { S with on := S.on.set n.toNat (wrap64 (S.on.getD n.toNat 0 + 1)) }
def downOpn (S : St) (n : Int) : St := { S with opn := S.opn.set n.toNat (wrap64 (S.opn.getD n.toNat 0 - 1)) }
def lookIf (S : St) (n : Int) : St := if S.bad = -1 then lookSt S n.toNat else S
def inAt (S : St) (l : Int) : List Int := S.inn.getD (pix S.ids l).toNat []
def stepA (S : St) : St := { S with done := S.done + 1 }
def stepSt (S : St) : St :=
  ((inAt S (-(S.trail.getD S.done.toNat 0))).foldl lookIf
    ((inAt S (-(S.trail.getD S.done.toNat 0))).foldl downOpn
      ((inAt S (S.trail.getD S.done.toNat 0)).foldl upOn (stepA S))))
def goes (S : St) : Bool := decide (S.bad = -1 ∧ S.done < S.trail.length)
def runF : Nat → St → St
  | 0, S => S
  | k + 1, S => if goes S = true then runF k (stepSt S) else S

theorem Ok.on {S : St} (h : Ok S) (xs : List Int) (hx : xs.length = S.on.length) : Ok { S with on := xs } := ⟨h.nd, h.rg, h.lnv, h.lw, h.li, h.bv, h.tr, h.lo, hx.trans h.ln⟩
theorem Ok.opn {S : St} (h : Ok S) (xs : List Int) (hx : xs.length = S.opn.length) : Ok { S with opn := xs } := ⟨h.nd, h.rg, h.lnv, h.lw, h.li, h.bv, h.tr, hx.trans h.lo, h.ln⟩
theorem Good.upOn {S : St} (h : Good S) (n : Int) : Good (upOn S n) := ⟨h.ok.on _ (by simp), h.tk, h.tf, h.cf, h.ir, h.dn⟩
theorem Good.downOpn {S : St} (h : Good S) (n : Int) : Good (downOpn S n) := ⟨h.ok.opn _ (by simp), h.tk, h.tf, h.cf, h.ir, h.dn⟩
end Go.Proofs.Ytfljggodnnpeiaa.Spr

namespace Go.Proofs.Ytfljggodnnpeiaa.Spr
open Go.RowKit Go.Maps Go.Proofs.Ytfljggodnnpeiaa.Lit
set_option linter.unusedVariables false

theorem Row.le {w : World} {B : Nat} {τ : Nat → Nat} {t : Nat} {e : TypeId} {v : Value} {xs : List Value} (h : Row w B τ t e v xs) : xs.length ≤ 9223372036854775807 := by
  obtain ⟨⟨h1, h2⟩, ht⟩ := h
  rcases h2 with ⟨rfl, h3⟩ | ⟨g, cap, cur, rfl, hg, hh, hc, hm, hcs, hk⟩
  · omega
  · unfold maxLen at hm; omega
theorem Rep.clauses_le {w : World} {B b : Nat} {τ : Nat → Nat} {V : Vals} {S : St} (R : Rep w B b τ V S) : S.clauses.length ≤ 9223372036854775807 := by
  rw [← R.lc]; exact R.rc.le
theorem Rep.clause_le {w : World} {B b : Nat} {τ : Nat → Nat} {V : Vals} {S : St} (R : Rep w B b τ V S) (n : Nat) : (S.clauses.getD n []).length ≤ 9223372036854775807 := by
  by_cases hn : n < S.clauses.length
  · have hl := R.lc
    have e1 : V.cl[n]? = some V.cl[n] := List.getElem?_eq_getElem (by omega)
    have e2 : S.clauses[n]? = some (S.clauses.getD n []) := by rw [List.getD_eq_getElem?_getD, List.getElem?_eq_getElem hn]; rfl
    have := (R.cl n _ _ e1 e2).le
    rwa [ints_len] at this
  · rw [List.getD_eq_getElem?_getD, List.getElem?_eq_none (by omega)]; simp

theorem look_all {w : World} {B b : Nat} {τ : Nat → Nat} {V : Vals} {S : St} (R : Rep w B b τ V S) (h : Ok S) (n : Nat) (hn : n < S.clauses.length) :
    Calls Try.prog 115 #[.pointer (some ⟨b, 0, none⟩), .int .i64 n] w fun e w' => e = .returned (.tuple #[]) ∧ Led w B b V.kp (lookSt S n) w' :=
  look_any R h n hn R.clauses_le (R.clause_le n)

set_option maxHeartbeats 1000000 in
set_option maxRecDepth 100000 in
theorem begin_any {w : World} {B b : Nat} {τ : Nat → Nat} {V : Vals} {S : St} (R : Rep w B b τ V S) (h : Good S) :
    Calls Try.prog 108 #[.pointer (some ⟨b, 0, none⟩)] w fun e w' => e = .returned (.tuple #[]) ∧ Led w B b V.kp (beginSt S) w' := by
  obtain ⟨⟨_, d1, _⟩, _⟩ := cells_at R.blk
  have hm := R.clauses_le
  obtain ⟨A, c, hv⟩ := own_slice R.rc.own
  rw [R.lc] at hv
  rw [hv] at d1
  have HL0 := Lib.hid (Led.mk (w := w) R (Below.refl _ _) (Kp.refl _))
  unfold beginSt
  have HG := Lib.hid (fun k hk => h.begin_ k hk)
  have HC := Lib.hid (fun k => beginF_clauses S k)
  have HS := Lib.hid (fun k => beginF_succ S k)
  generalize V.kp = L at *
  clear R h hv
  generalize hlen : S.clauses.length = len at *
  have HLen := Lib.hid hlen
  clear hlen
  go_enter Try.func108, Try.ntmps108
  go_wp2
  go_loopw [8] (fun i wr => ∃ k : Nat, k ≤ len ∧ i = .int .i64 k ∧ Led w B b L (beginF S k) wr) (fun i _ => len - (intOf i).toNat)
  case atStart => exact ⟨0, Nat.zero_le _, rfl, HL0.out⟩
  case round =>
    obtain ⟨k, hk, rfl, hl⟩ := hrel
    by_cases hlt : k < len
    · obtain ⟨τ1, V1, R1, hb1, hp1⟩ := hl
      have HLk := Lib.hid (look_all R1 (HG.out k hk).ok k (by rw [HC.out, HLen.out]; exact hlt))
      have HB1 := Lib.hid hb1
      have HP1 := Lib.hid hp1
      clear R1 hb1 hp1
      go_wp2_with (first
        | (go_at_call 115; refine HLk.out.mono ?_; rintro e w' ⟨rfl, hl2⟩; have HL2 := Lib.hid (hl2.after HB1.out HP1.out); clear hl2))
      go_roundw
      case rel => exact ⟨k + 1, by omega, by go_num, by rw [HS.out]; exact HL2.out⟩
      case measure => simp [intOf]; omega
    · obtain rfl : k = len := by omega
      have HLe := Lib.hid hl
      clear hl
      go_wp2
      refine bodyPost_end (results_none rfl _ _ _) rfl ⟨rfl, ?_⟩
      exact HLe.out

end Go.Proofs.Ytfljggodnnpeiaa.Spr

namespace Go.Proofs.Ytfljggodnnpeiaa.Spr
open Go.RowKit Go.Maps Go.Proofs.Ytfljggodnnpeiaa.Lit
set_option linter.unusedVariables false

theorem Rep.inrow {w : World} {B b : Nat} {τ : Nat → Nat} {V : Vals} {S : St} (R : Rep w B b τ V S) {L : KL} (hp : Kp L V.kp) {p : Nat} {AA : Option Addr} {ca : Nat} {C : List Int} (hv : L.1[p]? = some (.slice AA C.length ca)) (hc : S.inn[p]? = some C) (k : Nat) (hk : k < C.length) :
    ∃ g, AA = some ⟨g, 0, none⟩ ∧ w.cell? ⟨g, k, none⟩ = some (.int .i64 (C.getD k 0)) := by
  obtain ⟨⟨t, ht⟩, _⟩ := hp
  have hv' : V.inn[p]? = some (.slice AA C.length ca) := by
    show V.kp.1[p]? = _
    rw [← ht, List.getElem?_append_left (by rw [List.getElem?_eq_some_iff] at hv; exact hv.1)]; exact hv
  have hr := R.inn p _ _ hv' hc
  obtain ⟨g', c', hv2, _, _, _, _, hcell', _⟩ := hr.form (by rw [ints_len]; omega)
  injection hv2 with hA
  exact ⟨g', hA, hcell' k _ (ints_get hk)⟩
theorem Rep.inat {w : World} {B b : Nat} {τ : Nat → Nat} {V : Vals} {S : St} (R : Rep w B b τ V S) (p : Nat) (hp : p < S.inn.length) :
    ∃ g c AA ca, w.cell? ⟨b, 2, none⟩ = some (.slice (some ⟨g, 0, none⟩) S.inn.length c) ∧ w.cell? ⟨g, p, none⟩ = some (.slice AA (S.inn.getD p []).length ca) ∧ V.inn[p]? = some (.slice AA (S.inn.getD p []).length ca) ∧ S.inn[p]? = some (S.inn.getD p []) ∧ g ≠ b ∧ b ≠ g ∧ (S.inn.getD p []).length ≤ 9223372036854775807 := by
  have hl := R.lin
  obtain ⟨g, c, h1, _, htg, _, _, hcell, _⟩ := R.rin.form (by omega)
  obtain ⟨⟨d0, d1, d2, d3, d4, d5, d6, d7, d8, d9⟩, hfb⟩ := cells_at R.blk
  rw [h1, hl] at d2
  have e1 : V.inn[p]? = some V.inn[p] := List.getElem?_eq_getElem (by omega)
  have e2 : S.inn[p]? = some (S.inn.getD p []) := by rw [List.getD_eq_getElem?_getD, List.getElem?_eq_getElem hp]; rfl
  have hr := R.inn p _ _ e1 e2
  obtain ⟨A, ca, hv⟩ := own_slice hr.own
  rw [ints_len] at hv
  have hx := hcell p _ e1
  rw [hv] at hx e1
  have n1 : g ≠ b := fun e => by have := R.tb; rw [← e, htg] at this; omega
  have hle := hr.le
  rw [ints_len] at hle
  exact ⟨g, c, A, ca, d2, hx, e1, e2, n1, n1.symm, hle⟩
theorem Rep.onat {w : World} {B b : Nat} {τ : Nat → Nat} {V : Vals} {S : St} (R : Rep w B b τ V S) (h : Ok S) (n : Nat) (hn : n < S.clauses.length) :
    ∃ g c, V.von = .slice (some ⟨g, 0, none⟩) S.clauses.length c ∧ B ≤ g ∧ w.cell? ⟨b, 4, none⟩ = some (.slice (some ⟨g, 0, none⟩) S.clauses.length c) ∧ w.cell? ⟨g, n, none⟩ = some (.int .i64 (S.on.getD n 0)) ∧ w.frozen? ⟨g, n, none⟩ = false ∧ g ≠ b ∧ b ≠ g := by
  obtain ⟨g, c, h1, hB, ht, _, _, hcell, hf⟩ := R.ron.form (by rw [ints_len, h.ln]; omega)
  rw [ints_len, h.ln] at h1
  obtain ⟨⟨d0, d1, d2, d3, d4, d5, d6, d7, d8, d9⟩, hfb⟩ := cells_at R.blk
  rw [h1] at d4
  have n1 : g ≠ b := fun e => by have := R.tb; rw [← e, ht] at this; omega
  exact ⟨g, c, h1, hB, d4, hcell n _ (ints_get (by rw [h.ln]; exact hn)), hf n, n1, n1.symm⟩
theorem Rep.opat {w : World} {B b : Nat} {τ : Nat → Nat} {V : Vals} {S : St} (R : Rep w B b τ V S) (h : Ok S) (n : Nat) (hn : n < S.clauses.length) :
    ∃ g c, V.vo = .slice (some ⟨g, 0, none⟩) S.clauses.length c ∧ B ≤ g ∧ w.cell? ⟨b, 3, none⟩ = some (.slice (some ⟨g, 0, none⟩) S.clauses.length c) ∧ w.cell? ⟨g, n, none⟩ = some (.int .i64 (S.opn.getD n 0)) ∧ w.frozen? ⟨g, n, none⟩ = false ∧ g ≠ b ∧ b ≠ g := by
  obtain ⟨g, c, h1, hB, ht, _, _, hcell, hf⟩ := R.ro.form (by rw [ints_len, h.lo]; omega)
  rw [ints_len, h.lo] at h1
  obtain ⟨⟨d0, d1, d2, d3, d4, d5, d6, d7, d8, d9⟩, hfb⟩ := cells_at R.blk
  rw [h1] at d3
  have n1 : g ≠ b := fun e => by have := R.tb; rw [← e, ht] at this; omega
  exact ⟨g, c, h1, hB, d3, hcell n _ (ints_get (by rw [h.lo]; exact hn)), hf n, n1, n1.symm⟩

theorem fold_take {σ : Type} (f : σ → Int → σ) (C : List Int) (k : Nat) (hk : k < C.length) (s : σ) : (C.take (k + 1)).foldl f s = f ((C.take k).foldl f s) (C.getD k 0) := by
  rw [List.take_succ_eq_append_getElem hk, List.foldl_append, List.getD_eq_getElem?_getD, List.getElem?_eq_getElem hk]; rfl
theorem fold_keeps {σ : Type} (f : σ → Int → σ) (I : σ → Prop) (C : List Int) (h : ∀ s n, n ∈ C → I s → I (f s n)) : ∀ (k : Nat) (s : σ), I s → I ((C.take k).foldl f s) := by
  intro k
  have hm : ∀ n ∈ C.take k, n ∈ C := fun n hn => List.mem_of_mem_take hn
  generalize C.take k = D at hm
  induction D with
  | nil => exact fun s hs => hs
  | cons x t ih => exact fun s hs => ih (fun n hn => hm n (by simp [hn])) _ (h s x (hm x (by simp)) hs)

structure Like (S T : St) : Prop where
  good : Good T
  ids : T.ids = S.ids
  clauses : T.clauses = S.clauses
  inn : T.inn = S.inn
theorem Like.refl {S : St} (h : Good S) : Like S S := ⟨h, rfl, rfl, rfl⟩
theorem Like.upOn {S T : St} (h : Like S T) (n : Int) : Like S (upOn T n) := ⟨h.good.upOn n, h.ids, h.clauses, h.inn⟩
theorem Like.downOpn {S T : St} (h : Like S T) (n : Int) : Like S (downOpn T n) := ⟨h.good.downOpn n, h.ids, h.clauses, h.inn⟩
theorem put_like {S : St} (h : Good S) (l why : Int) (hl : fm l = true) (hk : S.ids.contains (lv l) = true) : Like S (putSt S l why) := by
  have e : placeSt S l = S := by unfold placeSt; rw [if_pos hk]
  obtain ⟨e1, e2, e3, e4, e5, e6, e7, e8⟩ := putSt_fields S l why
  rw [e] at e6 e7
  exact ⟨h.put l why hl, e6, e1, e7⟩
def Known (S : St) : Prop := ∀ c ∈ S.clauses, ∀ l ∈ c, S.ids.contains (lv l) = true
theorem look_like {S T : St} (h : Like S T) (hk : Known S) (n : Nat) (hn : n < S.clauses.length) : Like S (lookSt T n) := by
  have hn' : n < T.clauses.length := by rw [h.clauses]; exact hn
  have hg := h.good.look n hn'
  unfold lookSt at hg ⊢
  split
  · exact h
  · rename_i h1
    rw [if_neg h1] at hg
    split
    · rename_i h2
      rw [if_pos h2] at hg
      exact ⟨hg, h.ids, h.clauses, h.inn⟩
    · unfold unitSt
      split
      · rename_i l hl
        have hm : T.clauses.getD n [] ∈ T.clauses := by
          rw [List.getD_eq_getElem?_getD, List.getElem?_eq_getElem hn']; exact List.getElem_mem _
        have hl' := List.mem_of_find?_eq_some hl
        have hlk : T.ids.contains (lv l) = true := by
          rw [h.ids]; exact hk _ (by rw [← h.clauses]; exact hm) l hl'
        have := put_like h.good l n (h.good.cf _ hm l hl') hlk
        exact ⟨this.good, this.ids.trans h.ids, this.clauses.trans h.clauses, this.inn.trans h.inn⟩
      · exact h
theorem lookIf_like {S T : St} (h : Like S T) (hk : Known S) (n : Int) (hn : n < S.clauses.length) (h0 : 0 ≤ n) : Like S (lookIf T n) := by
  unfold Spr.lookIf
  split
  · exact look_like h hk _ (by omega)
  · exact h

theorem Like.stepA {S T : St} (h : Like S T) (hg : goes T = true) : Like S (stepA T) := by
  obtain ⟨hbad, hdone⟩ : T.bad = -1 ∧ T.done < T.trail.length := of_decide_eq_true hg
  have := h.good.dn
  have hok := h.good.ok
  exact ⟨⟨⟨hok.nd, hok.rg, hok.lnv, hok.lw, hok.li, hok.bv, hok.tr, hok.lo, hok.ln⟩, h.good.tk, h.good.tf, h.good.cf, h.good.ir, by show 0 ≤ T.done + 1 ∧ T.done + 1 ≤ T.trail.length; omega⟩, h.ids, h.clauses, h.inn⟩
theorem Good.in_ {S : St} (h : Good S) {p : Nat} {C : List Int} (hC : S.inn[p]? = some C) (k : Nat) (hk : k < C.length) : ∃ m : Nat, C.getD k 0 = m ∧ m < S.clauses.length := by
  have hm : C ∈ S.inn := List.mem_of_getElem? hC
  have hn : C.getD k 0 ∈ C := by
    rw [List.getD_eq_getElem?_getD, List.getElem?_eq_getElem hk]; exact List.getElem_mem _
  have := h.ir C hm _ hn
  exact ⟨(C.getD k 0).toNat, by omega, by omega⟩
theorem Good.in_mem {S : St} (h : Good S) {p : Nat} {C : List Int} (hC : S.inn[p]? = some C) (n : Int) (hn : n ∈ C) : 0 ≤ n ∧ n < S.clauses.length := h.ir C (List.mem_of_getElem? hC) n hn

theorem Led.weak {w w' : World} {B b : Nat} {L L1 : KL} {S : St} (h : Led w B b L1 S w') (hp : Kp L L1) : Led w B b L S w' := h.after (Below.refl _ _) hp
theorem fold_all {σ : Type} (f : σ → Int → σ) (I : σ → Prop) (C : List Int) (h : ∀ s n, n ∈ C → I s → I (f s n)) (s : σ) (hs : I s) : I (C.foldl f s) := by
  have := fold_keeps f I C h C.length s hs
  rwa [List.take_length] at this
theorem lookIf_done (S : St) (n : Int) : (lookIf S n).done = S.done := by
  unfold lookIf
  split
  · exact (lookSt_fields _ _).2.2.2
  · rfl
theorem stepSt_done (S : St) : (stepSt S).done = S.done + 1 := by
  unfold stepSt
  refine fold_all lookIf (fun s => s.done = S.done + 1) _ (fun s n _ h => (lookIf_done s n).trans h) _ ?_
  refine fold_all downOpn (fun s => s.done = S.done + 1) _ (fun s n _ h => h) _ ?_
  exact fold_all upOn (fun s => s.done = S.done + 1) _ (fun s n _ h => h) _ rfl
theorem stepSt_like {S T : St} (h : Like S T) (hK : Known S) (hg : goes T = true) (p r : Nat) (hp : T.inn[p]? = some (inAt T (T.trail.getD T.done.toNat 0))) (hr : T.inn[r]? = some (inAt T (-(T.trail.getD T.done.toNat 0)))) : Like S (stepSt T) := by
  unfold stepSt
  refine fold_all lookIf (Like S) _ (fun s n hn hs => lookIf_like hs hK n (by rw [← h.clauses]; exact (h.good.in_mem hr n hn).2) (h.good.in_mem hr n hn).1) _ ?_
  refine fold_all downOpn (Like S) _ (fun s n _ hs => hs.downOpn n) _ ?_
  exact fold_all upOn (Like S) _ (fun s n _ hs => hs.upOn n) _ (h.stepA hg)

end Go.Proofs.Ytfljggodnnpeiaa.Spr

namespace Go.Proofs.Ytfljggodnnpeiaa.Spr
open Go.RowKit Go.Maps Go.Proofs.Ytfljggodnnpeiaa.Lit
set_option linter.unusedVariables false

theorem lv_neg {l : Int} (h : fm l = true) : lv (-l) = lv l := by
  have := fm_true h
  have h2 : fm (-l) = true := by unfold fm; rw [decide_eq_true_iff]; omega
  unfold lv
  rw [if_pos h, if_pos h2]
  split <;> split <;> omega

theorem Rep.head {w : World} {B b : Nat} {τ : Nat → Nat} {V : Vals} {S : St} (R : Rep w B b τ V S) (h : Good S) (hg : goes S = true) :
    ∃ d l : _, S.done = ((d : Nat) : Int) ∧ d < S.trail.length ∧ S.trail.getD S.done.toNat 0 = l ∧ fm l = true ∧ S.ids.contains (lv l) = true ∧ S.bad = -1 ∧
      w.cell? ⟨b, 9, none⟩ = some (.int .i64 (-1)) ∧ w.cell? ⟨b, 8, none⟩ = some (.int .i64 (d : Int)) ∧ (∀ i, w.frozen? ⟨b, i, none⟩ = false) ∧
      ∃ g c, w.cell? ⟨b, 7, none⟩ = some (.slice (some ⟨g, 0, none⟩) S.trail.length c) ∧ w.cell? ⟨g, d, none⟩ = some (.int .i64 l) ∧ g ≠ b ∧ b ≠ g := by
  obtain ⟨hbad, hdone⟩ : S.bad = -1 ∧ S.done < S.trail.length := of_decide_eq_true hg
  obtain ⟨d, hd⟩ : ∃ d : Nat, S.done = d := ⟨S.done.toNat, by have := h.dn; omega⟩
  have hlt : d < S.trail.length := by omega
  obtain ⟨g, c, h1, hB, ht, _, _, hcell, hf⟩ := R.rt.form (by rw [ints_len]; omega)
  rw [ints_len] at h1
  obtain ⟨⟨d0, d1, d2, d3, d4, d5, d6, d7, d8, d9⟩, hfb⟩ := cells_at R.blk
  rw [h1] at d7
  rw [hbad] at d9
  rw [hd] at d8
  have hm : S.trail.getD d 0 ∈ S.trail := by
    rw [List.getD_eq_getElem?_getD, List.getElem?_eq_getElem hlt]; exact List.getElem_mem _
  have n1 : g ≠ b := fun e => by have := R.tb; rw [← e, ht] at this; omega
  exact ⟨d, S.trail.getD d 0, hd, hlt, by rw [hd]; rfl, h.tf _ hm, h.tk _ hm, hbad, d9, d8, hfb, g, c, d7, hcell d _ (ints_get hlt), n1, n1.symm⟩

theorem pix_lt {S : St} (h : Ok S) (l : Int) (hk : S.ids.contains (lv l) = true) : (pix S.ids l).toNat < S.inn.length := by
  have hix : (S.ids.idxOf (lv l)) < S.ids.length := List.idxOf_lt_length_of_mem (by simpa using hk)
  have := h.li
  unfold pix; split <;> omega

set_option maxHeartbeats 4000000 in
set_option maxRecDepth 100000 in
theorem run_any {w : World} {B b : Nat} {τ : Nat → Nat} {V : Vals} {S : St} (R : Rep w B b τ V S) (h : Good S) (hK : Known S) (K : Nat) (hF : (S.trail.length : Int) + (S.ids.length : Int) < K) :
    Calls Try.prog 64 #[.pointer (some ⟨b, 0, none⟩)] w fun e w' => e = .returned (.bool (decide ((runF K S).bad = -1))) ∧ Led w B b V.kp (runF K S) w' := by
  have HL0 := Lib.hid (Led.mk (w := w) R (Below.refl _ _) (Kp.refl _))
  have HK := Lib.hid hK
  have HG := Lib.hid h
  generalize hT : runF K S = T at *
  have HT := Lib.hid hT
  generalize V.kp = L at *
  clear R h hT hK
  go_enter Try.func64, Try.ntmps64
  go_wp2
  go_loopg [3] K (fun kq _ wr => ∃ S1, Led w B b L S1 wr ∧ Hid (Like S S1) ∧ Hid (runF kq S1 = T) ∧ Hid ((S.ids.length : Int) < kq + S1.done))
  case atStart => exact ⟨S, HL0.out, Like.refl HG.out, HT.out, by have := HG.out.dn; show _ < _; omega⟩
  case round =>
    obtain ⟨S1, hled, hlike, hrun, hfu⟩ := hrel
    cases gk with
    | zero =>
      have h1 := hfu.out
      have h2 := hlike.out.good.dn
      have h3 := hlike.out.good.ok.trail_ids
      rw [hlike.out.ids] at h3
      omega
    | succ k1 =>
    obtain ⟨τ1, V1, R1, hb1, hp1⟩ := hled
    have HR1 := Lib.hid R1
    have HB1 := Lib.hid hb1
    have HP1 := Lib.hid hp1
    clear R1 hb1 hp1
    by_cases hg : goes S1 = true
    · have HGo := Lib.hid hg
      clear hg
      obtain ⟨d, l, hd, hdl, hl, hfl, hkl, hbad, d9, d8, hfb, gt, ct, d7, xt, n1, n2⟩ := HR1.out.head hlike.out.good HGo.out
      have hq0 := pix_ge S1.ids l
      have hq1 := pix_le hlike.out.good.ok l hkl
      obtain ⟨gi, ci, AA, ca, d2, xi, hLi, hCi, n3, n4, hcaL⟩ := HR1.out.inat (pix S1.ids l).toNat (pix_lt hlike.out.good.ok l hkl)
      have HPl := Lib.hid (fun m q => place_known (((HR1.out.stay (Stay.drewN _ _ _ m)).set_done (d + 1)).stay (Stay.drewN _ _ _ q)) l hkl (by have := hlike.out.good.ok.ids_le; show S1.ids.length ≤ _; omega))
      have hil : ((pix S1.ids l).toNat : Int) < S1.inn.length := by have := pix_lt hlike.out.good.ok l hkl; omega
      have Hd := Lib.hid hd
      have Hl := Lib.hid hl
      have Hfl := Lib.hid hfl
      have Hkl := Lib.hid hkl
      have Hbad := Lib.hid hbad
      have HLi := Lib.hid hLi
      have HCi := Lib.hid hCi
      have hd1 : (d : Int) < S1.trail.length := by omega
      have hd2 : (d : Int) < 1048577 := by have := hlike.out.good.ok.trail_le; omega
      have hd3 : 0 ≤ (d : Int) := by omega
      clear hd hl hfl hkl hbad hLi hCi
      obtain ⟨l1, l2, l3⟩ := fm_true Hfl.out
      generalize hA : S1.inn.getD (pix S1.ids l).toNat [] = CA at *
      obtain ⟨q, hq⟩ : ∃ q : Nat, pix S1.ids l = q := ⟨(pix S1.ids l).toNat, by omega⟩
      have Hq := Lib.hid hq
      have HA := Lib.hid hA
      clear hA
      rw [hq] at xi hil HPl
      rw [Int.toNat_natCast] at xi hil
      clear hq hq0 hq1
      go_wp2
      go_quiet (fail)
      go_wp2
      go_quiet (fail)
      go_wp2
      go_quiet ((go_at_call 114; exact Calls.quiet_of_same ((HPl.out _ _).mono fun _ _ h => ⟨h.1, h.2.symm⟩)))
      go_wp2
      have HLd := Lib.hid (fun m q => (Led.mk (w := w) (L := V1.kp) (((HR1.out.stay (Stay.drewN _ _ _ m)).set_done (S1.done + 1)).stay (Stay.drewN _ _ _ q)) (below_drewN ((below_drewN HB1.out m).setCell (p := ⟨b, 8, none⟩) HR1.out.hb _) q) (Kp.refl _)))
      rw [Hd.out] at HLd
      go_loopw [56] (fun i wr2 => ∃ k : Nat, k ≤ CA.length ∧ i = .int .i64 k ∧ Led w B b V1.kp ((CA.take k).foldl upOn (stepA S1)) wr2) (fun i _ => CA.length - (intOf i).toNat)
      case atStart => exact ⟨0, Nat.zero_le _, rfl, by unfold stepA; rw [Hd.out]; exact HLd.out _ _⟩
      case round =>
        obtain ⟨k, hk, rfl, hled2⟩ := hrel
        obtain ⟨τ2, V2, R2, hb2, hp2⟩ := hled2
        have HR2 := Lib.hid R2
        have HB2 := Lib.hid hb2
        have HP2 := Lib.hid hp2
        clear R2 hb2 hp2
        have HL2 := Lib.hid (fold_keeps upOn (Like S1) CA (fun s n _ hs => hs.upOn n) k (stepA S1) ((Like.refl hlike.out.good).stepA HGo.out))
        by_cases hlt : k < CA.length
        · obtain ⟨m, hm, hmc⟩ := hlike.out.good.in_ HCi.out k hlt
          obtain ⟨ga, hAA, xk⟩ := HR2.out.inrow HP2.out HLi.out (by rw [HL2.out.inn]; exact HCi.out) k hlt
          obtain ⟨g, c, hvon, hBg, d4, x4, f4, n5, n6⟩ := HR2.out.onat HL2.out.good.ok m (by rw [HL2.out.clauses]; exact hmc)
          have HS := Lib.hid (fold_take upOn CA k hlt (stepA S1))
          subst hAA
          rw [hm] at xk HS
          have Hvon := Lib.hid hvon
          rw [HL2.out.clauses] at d4
          have hmc1 : (m : Int) < S1.clauses.length := by omega
          have hm0 : 0 ≤ (m : Int) := by omega
          have Hm := Lib.hid hm
          clear hm hvon
          generalize hSk : (CA.take k).foldl upOn (stepA S1) = Sk at *
          have HSk := Lib.hid hSk
          clear hSk
          go_wp2
          go_roundw
          case rel => exact ⟨k + 1, by omega, by go_num, by rw [HS.out]; exact Led.mk (HR2.out.put_von Hvon.out m _) (HB2.out.setCell (p := ⟨g, m, none⟩) hBg _) HP2.out⟩
          case measure => simp [intOf]; omega
        · obtain rfl : k = CA.length := by omega
          rw [List.take_length] at HL2 HR2
          generalize hS2 : CA.foldl upOn (stepA S1) = S2 at *
          have HS2 := Lib.hid hS2
          clear hS2 hk hlt
          have hkl2 : S1.ids.contains (lv (-l)) = true := by rw [lv_neg Hfl.out]; exact Hkl.out
          have HPn := Lib.hid (place_known HR2.out (-l) (by rw [HL2.out.ids]; exact hkl2) (by have := HL2.out.good.ok.ids_le; omega))
          have hq0 := pix_ge S1.ids (-l)
          have hq1 := pix_le hlike.out.good.ok (-l) hkl2
          obtain ⟨gj, cj, AB, cb, e2, xj, hLj, hCj, n5, n6, hcbL⟩ := HR2.out.inat (pix S1.ids (-l)).toNat (by rw [HL2.out.inn]; exact pix_lt hlike.out.good.ok (-l) hkl2)
          rw [HL2.out.inn] at e2 xj hLj hCj hcbL
          rw [HL2.out.ids] at HPn
          have hjl : ((pix S1.ids (-l)).toNat : Int) < S1.inn.length := by have := pix_lt hlike.out.good.ok (-l) hkl2; omega
          generalize hB : S1.inn.getD (pix S1.ids (-l)).toNat [] = CB at *
          obtain ⟨r, hr⟩ : ∃ r : Nat, pix S1.ids (-l) = r := ⟨(pix S1.ids (-l)).toNat, by omega⟩
          have Hr := Lib.hid hr
          have HBB := Lib.hid hB
          have HLj := Lib.hid hLj
          have HCj := Lib.hid hCj
          clear hB hLj hCj
          rw [hr] at xj hjl HPn
          rw [Int.toNat_natCast] at xj hjl
          have hr0 : 0 ≤ (r : Int) := by omega
          clear hr hq0 hq1 hkl2
          go_wp2_with (go_at_call 114; refine HPn.out.mono ?_; rintro e w' ⟨rfl, rfl⟩)
          have HLe := Lib.hid (Led.mk (w := w) (L := V2.kp) HR2.out HB2.out (Kp.refl _))
          go_loopw [83] (fun i wr3 => ∃ k : Nat, k ≤ CB.length ∧ i = .int .i64 k ∧ Led w B b V2.kp ((CB.take k).foldl downOpn S2) wr3) (fun i _ => CB.length - (intOf i).toNat)
          case atStart => exact ⟨0, Nat.zero_le _, rfl, HLe.out⟩
          case round =>
            obtain ⟨k, hk, rfl, hled3⟩ := hrel
            obtain ⟨τ3, V3, R3, hb3, hp3⟩ := hled3
            have HR3 := Lib.hid R3
            have HB3 := Lib.hid hb3
            have HP3 := Lib.hid hp3
            clear R3 hb3 hp3
            have HL3 := Lib.hid (fold_keeps downOpn (Like S1) CB (fun s n _ hs => hs.downOpn n) k S2 HL2.out)
            by_cases hlt : k < CB.length
            · obtain ⟨m, hm, hmc⟩ := hlike.out.good.in_ HCj.out k hlt
              obtain ⟨ga, hAA, xk⟩ := HR3.out.inrow HP3.out HLj.out (by rw [HL3.out.inn]; exact HCj.out) k hlt
              obtain ⟨g, c, hvo, hBg, d3', x3, f3, n7, n8⟩ := HR3.out.opat HL3.out.good.ok m (by rw [HL3.out.clauses]; exact hmc)
              have HS := Lib.hid (fold_take downOpn CB k hlt S2)
              subst hAA
              rw [hm] at xk HS
              have Hvo := Lib.hid hvo
              rw [HL3.out.clauses] at d3'
              have hmc1 : (m : Int) < S1.clauses.length := by omega
              have hm0 : 0 ≤ (m : Int) := by omega
              have Hm := Lib.hid hm
              clear hm hvo
              generalize hSk : (CB.take k).foldl downOpn S2 = Sk at *
              have HSk := Lib.hid hSk
              clear hSk
              go_wp2
              go_roundw
              case rel => exact ⟨k + 1, by omega, by go_num, by rw [HS.out]; exact Led.mk (HR3.out.put_vo Hvo.out m _) (HB3.out.setCell (p := ⟨g, m, none⟩) hBg _) HP3.out⟩
              case measure => simp [intOf]; omega
            · obtain rfl : k = CB.length := by omega
              rw [List.take_length] at HL3 HR3
              generalize hS3 : CB.foldl downOpn S2 = S3 at *
              have HS3 := Lib.hid hS3
              clear hS3 hk hlt
              have HLf := Lib.hid (Led.mk (w := w) (L := V2.kp) HR3.out HB3.out HP3.out)
              go_wp2
              go_loopw [99] (fun i wr4 => ∃ k : Nat, k ≤ CB.length ∧ i = .int .i64 k ∧ Led w B b V2.kp ((CB.take k).foldl lookIf S3) wr4) (fun i _ => CB.length - (intOf i).toNat)
              case atStart => exact ⟨0, Nat.zero_le _, rfl, HLf.out⟩
              case round =>
                obtain ⟨k, hk, rfl, hled4⟩ := hrel
                by_cases hlt : k < CB.length
                · obtain ⟨τ4, V4, R4, hb4, hp4⟩ := hled4
                  have HR4 := Lib.hid R4
                  have HB4 := Lib.hid hb4
                  have HP4 := Lib.hid hp4
                  clear R4 hb4 hp4
                  have HL4 := Lib.hid (fold_keeps lookIf (Like S1) CB (fun s n hn hs => lookIf_like hs (by intro c hc l hl; rw [hlike.out.ids]; exact HK.out c (by rw [← hlike.out.clauses]; exact hc) l hl) n (hlike.out.good.in_mem HCj.out n hn).2 (hlike.out.good.in_mem HCj.out n hn).1) k S3 HL3.out)
                  obtain ⟨m, hm, hmc⟩ := hlike.out.good.in_ HCj.out k hlt
                  obtain ⟨ga, hAA, xk⟩ := HR4.out.inrow HP4.out HLj.out (by rw [HL4.out.inn]; exact HCj.out) k hlt
                  obtain ⟨⟨_, _, _, _, _, _, _, _, _, d9'⟩, _⟩ := cells_at HR4.out.blk
                  have HS := Lib.hid (fold_take lookIf CB k hlt S3)
                  subst hAA
                  rw [hm] at xk HS
                  have Hm := Lib.hid hm
                  clear hm
                  generalize hSk : (CB.take k).foldl lookIf S3 = Sk at *
                  have HSk := Lib.hid hSk
                  clear hSk
                  by_cases hbd : Sk.bad = -1
                  · rw [hbd] at d9'
                    have HBd := Lib.hid hbd
                    have HLk := Lib.hid (look_all HR4.out HL4.out.good.ok m (by rw [HL4.out.clauses]; exact hmc))
                    clear hbd
                    go_wp2_with (go_at_call 115; refine HLk.out.mono ?_; rintro e w' ⟨rfl, hl2⟩; have HL5 := Lib.hid (hl2.after HB4.out HP4.out); clear hl2)
                    go_roundw
                    case rel => exact ⟨k + 1, by omega, by go_num, by rw [HS.out]; unfold lookIf; rw [if_pos HBd.out, Int.toNat_natCast]; exact HL5.out⟩
                    case measure => simp [intOf]; omega
                  · have hbf : (Sk.bad == -1) = false := by simpa using hbd
                    have HBd := Lib.hid hbd
                    clear hbd
                    go_wp2
                    go_roundw
                    case rel => exact ⟨k + 1, by omega, by go_num, by rw [HS.out]; unfold lookIf; rw [if_neg HBd.out]; exact Led.mk HR4.out HB4.out HP4.out⟩
                    case measure => simp [intOf]; omega
                · obtain rfl : k = CB.length := by omega
                  rw [List.take_length] at hled4
                  have HLx := Lib.hid hled4
                  clear hled4 hk hlt
                  go_wp2
                  go_roundg k1
                  case measure => omega
                  case rel =>
                    have e4 : stepSt S1 = CB.foldl lookIf S3 := by
                      have eA : inAt S1 (S1.trail.getD S1.done.toNat 0) = CA := by rw [Hl.out]; unfold inAt; exact HA.out
                      have eB : inAt S1 (-(S1.trail.getD S1.done.toNat 0)) = CB := by rw [Hl.out]; unfold inAt; exact HBB.out
                      unfold stepSt
                      rw [eA, eB, HS2.out, HS3.out]
                    have hl4 : Like S (stepSt S1) := stepSt_like hlike.out HK.out HGo.out (pix S1.ids l).toNat (pix S1.ids (-l)).toNat
                      (by rw [Hl.out]; unfold inAt; rw [HA.out]; exact HCi.out) (by rw [Hl.out]; unfold inAt; rw [HBB.out]; exact HCj.out)
                    refine ⟨stepSt S1, ?_, hl4, ?_, ?_⟩
                    · rw [e4]; exact HLx.out.weak (HP1.out.trans HP2.out)
                    · show runF k1 (stepSt S1) = T
                      have := hrun.out
                      rwa [runF, if_pos HGo.out] at this
                    · show (S.ids.length : Int) < k1 + (stepSt S1).done
                      rw [stepSt_done]
                      have := hfu.out
                      omega
    · have hT1 : S1 = T := by
        have := hrun.out
        rwa [runF, if_neg hg] at this
      have hng : ¬ (S1.bad = -1 ∧ S1.done < S1.trail.length) := fun h => hg (decide_eq_true h)
      obtain ⟨d, hd⟩ : ∃ d : Nat, S1.done = d := ⟨S1.done.toNat, by have := hlike.out.good.dn; omega⟩
      obtain ⟨At, ct, hvt⟩ := own_slice HR1.out.rt.own
      obtain ⟨⟨_, _, _, _, _, _, _, d7, d8, d9⟩, hfb⟩ := cells_at HR1.out.blk
      rw [hvt, ints_len] at d7
      rw [hd] at d8
      have HTT := Lib.hid hT1
      have HLe := Lib.hid (Led.mk (w := w) (L := L) HR1.out HB1.out HP1.out)
      by_cases hbad : S1.bad = -1
      · rw [hbad] at d9
        have hnd : decide (d < S1.trail.length) = false := by rw [decide_eq_false_iff_not]; omega
        have hbt : (decide (S1.bad = -1)) = true := decide_eq_true hbad
        have HBt := Lib.hid hbt
        clear hvt hd hng hg hbad hbt hT1
        go_wp2
        go_quiet (fail)
        go_wp2
        go_ret
        rw [← HTT.out]
        exact ⟨by rw [HBt.out]; rfl, HLe.out.drewN _⟩
      · have hbf : (S1.bad == -1) = false := by simpa using hbad
        have hbt : (decide (S1.bad = -1)) = false := decide_eq_false hbad
        have HBt := Lib.hid hbt
        clear hvt hd hng hg hbad hbt hT1
        go_wp2
        go_quiet (fail)
        go_wp2
        go_ret
        rw [← HTT.out]
        exact ⟨by rw [HBt.out]; rfl, HLe.out.drewN _⟩

end Go.Proofs.Ytfljggodnnpeiaa.Spr
