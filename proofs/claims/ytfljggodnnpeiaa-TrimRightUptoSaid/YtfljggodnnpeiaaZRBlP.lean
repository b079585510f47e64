/- Part of the proof of TrimRight: what the law uses of the text BlP. -/
import Derived.Test.YtfljggodnnpeiaaZRJJoin
namespace Go.Proofs.Ytfljggodnnpeiaa.Spr
open Go.RowKit Go.Proofs.Ytfljggodnnpeiaa.Lit
set_option linter.unusedVariables false

def whyAt (S : St) (l : Int) : Int := S.why.getD (S.ids.idxOf (lv l)) 0
theorem whyAt_neg (S : St) {l : Int} (h : fm l = true) : whyAt S (-l) = whyAt S l := by unfold whyAt; rw [lv_neg h]
theorem whyAt_place {S : St} (h : Ok S) (l x : Int) (hx : S.ids.contains (lv x) = true) : whyAt (placeSt S l) x = whyAt S x := by
  unfold placeSt
  split
  · rfl
  · unfold whyAt newPlace
    dsimp only
    have hi : S.ids.idxOf (lv x) < S.why.length := by rw [h.lw]; exact List.idxOf_lt_length_of_mem (by simpa using hx)
    rw [idx_app hx, List.getD_eq_getElem?_getD, List.getElem?_append_left hi, ← List.getD_eq_getElem?_getD]
theorem whyAt_putNew {S : St} (h : Ok S) (l x why : Int) (hk : S.ids.contains (lv l) = true) (hx : S.ids.contains (lv x) = true) : whyAt (putNew S l why) x = if lv x = lv l then why else whyAt S x := by
  have hi : S.ids.idxOf (lv l) < S.why.length := by rw [h.lw]; exact List.idxOf_lt_length_of_mem (by simpa using hk)
  unfold whyAt putNew
  dsimp only
  by_cases e : lv x = lv l
  · rw [if_pos e, e, List.getD_eq_getElem?_getD, List.getElem?_set_self hi]; rfl
  · rw [if_neg e]
    have hne : S.ids.idxOf (lv l) ≠ S.ids.idxOf (lv x) := by
      intro e2
      have hmx : lv x ∈ S.ids := by simpa using hx
      have hml : lv l ∈ S.ids := by simpa using hk
      have a := List.getElem_idxOf (List.idxOf_lt_length_of_mem hmx)
      have b := List.getElem_idxOf (List.idxOf_lt_length_of_mem hml)
      exact e (by rw [← a, ← b]; congr 1; exact e2.symm)
    rw [List.getD_eq_getElem?_getD, List.getElem?_set_ne hne, ← List.getD_eq_getElem?_getD]

def Said (cls : List (List Int)) (F : List Int) (w : Int) (T : List Int) (l : Int) : Prop :=
  (w = -1 ∧ l ∈ F) ∨ ∃ n : Nat, w = n ∧ n < cls.length ∧ l ∈ cls.getD n [] ∧ ∀ x ∈ cls.getD n [], x ≠ l → -x ∈ T
structure Wy (cls : List (List Int)) (F : List Int) (S : St) : Prop where
  rg : ∀ w ∈ S.why, w = -1 ∨ (0 ≤ w ∧ w < cls.length)
  tr : ∀ i, i < S.trail.length → Said cls F (whyAt S (S.trail.getD i 0)) (S.trail.take i) (S.trail.getD i 0)
  bad : S.bad = -1 ∨ ∃ n : Nat, S.bad = n ∧ n < cls.length ∧ ∀ x ∈ cls.getD n [], -x ∈ S.trail
theorem getD_mem' {T : List Int} {i : Nat} (h : i < T.length) : T.getD i 0 ∈ T := by
  rw [List.getD_eq_getElem?_getD, List.getElem?_eq_getElem h]; exact List.getElem_mem h
theorem Wy.same {cls : List (List Int)} {F : List Int} {S S' : St} (h : Wy cls F S) (h1 : S'.why = S.why) (h2 : S'.ids = S.ids) (h3 : S'.trail = S.trail) (h4 : S'.bad = S.bad) : Wy cls F S' :=
  ⟨by rw [h1]; exact h.rg, fun i hi => by have := h.tr i (by rw [← h3]; exact hi); unfold whyAt at this ⊢; rw [h1, h2, h3]; exact this, by rw [h4, h3]; exact h.bad⟩

theorem Wy.put {cls : List (List Int)} {F : List Int} {S : St} (hI : Inv cls F S) (h : Wy cls F S) (l why : Int) (hl : fm l = true) (hw : why = -1 ∨ (0 ≤ why ∧ why < cls.length)) (hs : vl S l = 0 → Said cls F why S.trail l) : Wy cls F (putSt S l why) := by
  have hok := hI.good.ok
  obtain ⟨e1, e2, e3, e4, e5, e6, e7, _⟩ := putSt_fields S l why
  have hpw : ∀ w ∈ (placeSt S l).why, w = -1 ∨ (0 ≤ w ∧ w < cls.length) := by
    intro w hm
    unfold placeSt at hm
    split at hm
    · exact h.rg w hm
    · unfold newPlace at hm
      dsimp only at hm
      rcases List.mem_append.1 hm with hm | hm
      · exact h.rg w hm
      · rw [List.mem_singleton] at hm; exact .inl hm
  have hkt : ∀ i, i < S.trail.length → S.ids.contains (lv (S.trail.getD i 0)) = true := fun i hi => hI.good.tk _ (getD_mem' hi)
  have ht : (placeSt S l).trail = S.trail := (placeSt_fields S l).2.2.2.1
  by_cases h0 : vl S l = 0
  · have htr : (putSt S l why).trail = S.trail ++ [l] := by rw [put_trail hok, if_pos h0]
    have he : putSt S l why = putNew (placeSt S l) l why := by unfold putSt; rw [vl_place hok, if_pos h0]
    refine ⟨fun w hm => ?_, fun i hi => ?_, ?_⟩
    · rw [he] at hm
      rcases List.mem_or_eq_of_mem_set hm with hm | rfl
      · exact hpw w hm
      · exact hw
    · rw [htr] at hi ⊢
      by_cases hlt : i < S.trail.length
      · have g1 : (S.trail ++ [l]).getD i 0 = S.trail.getD i 0 := by rw [List.getD_eq_getElem?_getD, List.getElem?_append_left hlt, ← List.getD_eq_getElem?_getD]
        rw [g1, List.take_append_of_le_length (by omega)]
        have hm := getD_mem' hlt
        have hfx := hI.good.tf _ hm
        have hv := (hI.tv _ hfx).1 hm
        have hk := hkt i hlt
        have hk2 : (placeSt S l).ids.contains (lv (S.trail.getD i 0)) = true := (placeSt_fields S l).2.2.2.2.2.2.1 _ hk
        have hne : ¬ lv (S.trail.getD i 0) = lv l := fun e => by
          rcases lv_eq hl hfx e with e | e
          · rw [e, h0] at hv; exact absurd hv (by decide)
          · rw [e, vl_neg S hl, h0] at hv; exact absurd hv (by decide)
        rw [he, whyAt_putNew (hok.place l) l _ why (placeSt_has S l) hk2, if_neg hne, whyAt_place hok l _ hk]
        exact h.tr i hlt
      · have hi2 : i = S.trail.length := by rw [List.length_append, List.length_singleton] at hi; omega
        subst hi2
        have g1 : (S.trail ++ [l]).getD S.trail.length 0 = l := by simp
        rw [g1, List.take_append_of_le_length (Nat.le_refl _), List.take_length, he, whyAt_putNew (hok.place l) l _ why (placeSt_has S l) (placeSt_has S l), if_pos rfl]
        exact hs h0
    · rw [e5, htr]
      rcases h.bad with hb | ⟨n, hb, h1, h2⟩
      · exact .inl hb
      · exact .inr ⟨n, hb, h1, fun x hx => List.mem_append_left _ (h2 x hx)⟩
  · have he : putSt S l why = placeSt S l := by unfold putSt; rw [vl_place hok, if_neg h0]
    rw [he]
    refine ⟨hpw, fun i hi => ?_, ?_⟩
    · rw [ht] at hi ⊢
      rw [whyAt_place hok l _ (hkt i hi)]
      exact h.tr i hi
    · rw [(placeSt_fields S l).2.2.2.2.2.1, ht]; exact h.bad

theorem Wy.unit {cls : List (List Int)} {F : List Int} {S : St} (hI : Inv cls F S) (h : Wy cls F S) {D : List Int} (hD : ∀ x ∈ D, x ∈ S.trail) (n : Nat) (hn : n < cls.length) (h1 : opnN D (cls.getD n []) = 1) : Wy cls F (unitSt S n (cls.getD n [])) := by
  have hm := getD_mem hn
  obtain ⟨l, hl, hld, hoth⟩ := opnN_one h1
  have hfc : ∀ x ∈ cls.getD n [], fm x = true := fun x hx => hI.good.cf (cls.getD n []) (by rw [hI.cl]; exact hm) x hx
  unfold unitSt
  split
  · rename_i m hf
    have hmm := List.mem_of_find?_eq_some hf
    have hv : vl S m ≥ 0 := by simpa using List.find?_some hf
    have hml : m = l := by
      by_cases e : m = l
      · exact e
      · have := (hI.tneg (hfc m hmm)).1 (hD _ (hoth m hmm e))
        omega
    subst hml
    exact Wy.put hI h m n (hfc m hmm) (.inr ⟨by omega, by omega⟩) (fun _ => .inr ⟨n, rfl, hn, hmm, fun x hx hne => hD _ (hoth x hx hne)⟩)
  · exact h
theorem Wy.look {cls : List (List Int)} {F : List Int} {S : St} (hI : Inv cls F S) (h : Wy cls F S) {D : List Int} (hc : Cnt cls D S) (hD : ∀ x ∈ D, x ∈ S.trail) (n : Nat) (hn : n < cls.length) : Wy cls F (lookSt S n) := by
  unfold lookSt
  split
  · exact h
  · rename_i h1
    split
    · rename_i h2
      have h0 : opnN D (cls.getD n []) = 0 := by have := hc.opn n hn; omega
      exact ⟨h.rg, h.tr, .inr ⟨n, rfl, hn, fun x hx => hD _ (opnN_zero h0 x hx)⟩⟩
    · rename_i h2
      have h0 : opnN D (cls.getD n []) = 1 := by have := hc.opn n hn; omega
      rw [hI.cl]
      exact Wy.unit hI h hD n hn h0
theorem Wy.begin_ {cls : List (List Int)} {F : List Int} {S : St} (hI : Inv cls F S) (h : Wy cls F S) (hnd : ∀ c ∈ cls, c.Nodup) (hc : Cnt cls [] S) : ∀ k, k ≤ cls.length → Wy cls F (beginF S k)
  | 0, _ => h
  | k + 1, hk => by
    obtain ⟨h1, h2, h3, h4, h5⟩ := hI.begin_ hnd hc k (by omega)
    rw [beginF_succ]
    exact Wy.look h1 (Wy.begin_ hI h hnd hc k (by omega)) h2 (by simp) k (by omega)
theorem Wy.looks {cls : List (List Int)} {F : List Int} (hnd : ∀ c ∈ cls, c.Nodup) {D : List Int} : ∀ (ns : List Int) (S : St), Inv cls F S → Wy cls F S → Cnt cls D S → (∀ x ∈ D, x ∈ S.trail) → (∀ n ∈ ns, 0 ≤ n ∧ n < cls.length) → Wy cls F (ns.foldl lookIf S)
  | [], S, hI, h, hc, hD, _ => h
  | n :: t, S, hI, h, hc, hD, hr => by
    have hn0 := hr n (by simp)
    rw [List.foldl_cons]
    by_cases hb : S.bad = -1
    · have e : lookIf S n = lookSt S n.toNat := by unfold lookIf; rw [if_pos hb]
      rw [e]
      obtain ⟨g1, g2, g3, g4⟩ := hI.look hnd hc hD n.toNat (by omega)
      exact Wy.looks hnd t _ g1 (Wy.look hI h hc hD n.toNat (by omega)) g2 (fun x hx => g3 x (hD x hx)) (fun x hx => hr x (by simp [hx]))
    · have e : lookIf S n = S := by unfold lookIf; rw [if_neg hb]
      rw [e]
      exact Wy.looks hnd t S hI h hc hD (fun x hx => hr x (by simp [hx]))
theorem up_why : ∀ (ns : List Int) (S : St), (ns.foldl upOn S).why = S.why
  | [], _ => rfl
  | n :: t, S => by rw [List.foldl_cons, up_why t]; rfl
theorem down_why : ∀ (ns : List Int) (S : St), (ns.foldl downOpn S).why = S.why
  | [], _ => rfl
  | n :: t, S => by rw [List.foldl_cons, down_why t]; rfl

set_option maxHeartbeats 1000000 in
theorem Wy.step {cls : List (List Int)} {F : List Int} {S : St} (h : Runs cls F S) (hW : Wy cls F S) (hnd : ∀ c ∈ cls, c.Nodup) (hlen : ∀ c ∈ cls, c.length ≤ 4611686018427387903) (hg : goes S = true) : Wy cls F (stepSt S) := by
  have hG := h.inv.good
  obtain ⟨hb, hdl⟩ : S.bad = -1 ∧ S.done < S.trail.length := of_decide_eq_true hg
  obtain ⟨hp, hr⟩ := head_in hG hg
  have hd0 := hG.dn
  obtain ⟨d, hd⟩ : ∃ d : Nat, S.done = d := ⟨S.done.toNat, by omega⟩
  have hdn : d < S.trail.length := by omega
  have hdt : S.done.toNat = d := by omega
  have hlm : S.trail.getD d 0 ∈ S.trail := by rw [List.getD_eq_getElem?_getD, List.getElem?_eq_getElem hdn]; exact List.getElem_mem hdn
  have hfl := hG.tf _ hlm
  have hkl := hG.tk _ hlm
  have hkn : S.ids.contains (lv (-(S.trail.getD d 0))) = true := by rw [lv_neg hfl]; exact hkl
  have i1 := h.inv.inn _ hfl hkl
  have i2 := h.inv.inn _ (fm_neg hfl) hkn
  have hnb := not_before h.inv.nd hdn
  have hcnt := h.cnt
  rw [hdt] at hcnt
  generalize hl : S.trail.getD d 0 = l at *
  have hstep : stepSt S = (occ cls (-l)).foldl lookIf ((occ cls (-l)).foldl downOpn ((occ cls l).foldl upOn (stepA S))) := by
    unfold stepSt; rw [hdt, hl, i1, i2]
  have hlo : S.opn.length = cls.length := by rw [hG.ok.lo, h.inv.cl]
  have hln : S.on.length = cls.length := by rw [hG.ok.ln, h.inv.cl]
  have ro : ∀ x, ∀ n ∈ occ cls x, 0 ≤ n ∧ n < (cls.length : Int) := fun x n hn => by have := (mem_occ cls x n).1 hn; exact ⟨this.1, this.2.1⟩
  obtain ⟨u1, u2, u3, u4, u5, u6, u7, u8, u9⟩ := fold_up (occ cls l) (stepA S) (occ_nodup _ _) (fun n hn => by have := ro l n hn; show 0 ≤ n ∧ n < (S.on.length : Int); omega)
  have gU : Good ((occ cls l).foldl upOn (stepA S)) := fold_all upOn Good _ (fun s n _ hs => hs.upOn n) _ ((Like.refl hG).stepA hg).good
  have wU := up_why (occ cls l) (stepA S)
  generalize hU : (occ cls l).foldl upOn (stepA S) = U at *
  obtain ⟨v1, v2, v3, v4, v5, v6, v7, v8, v9⟩ := fold_down (occ cls (-l)) U (occ_nodup _ _) (fun n hn => by have := ro (-l) n hn; rw [u2]; show 0 ≤ n ∧ n < (S.opn.length : Int); omega)
  have gV : Good ((occ cls (-l)).foldl downOpn U) := fold_all downOpn Good _ (fun s n _ hs => hs.downOpn n) _ gU
  have wV := down_why (occ cls (-l)) U
  generalize hV : (occ cls (-l)).foldl downOpn U = V at *
  have iV : Inv cls F V := h.inv.same gV (v3.trans u3) (v4.trans u4) (v5.trans u5) (v6.trans u6) (v9.trans u9) (v8.trans u8)
  have yV : Wy cls F V := hW.same (wV.trans wU) (v4.trans u4) (v6.trans u6) (v8.trans u8)
  have tV : V.trail = S.trail := v6.trans u6
  have cV : Cnt cls (S.trail.take d ++ [l]) V := by
    constructor
    · intro n hn
      have hm := getD_mem hn
      have h1 := hcnt.on n hn
      rw [v2, u1 n]
      show (if (n : Int) ∈ occ cls l then wrap64 (S.on.getD n 0 + 1) else S.on.getD n 0) = _
      rw [h1, posN_more (hnd _ hm) hnb]
      have hle := posN_le (S.trail.take d) (cls.getD n [])
      have hle2 := hlen _ hm
      have hiff : (n : Int) ∈ occ cls l ↔ l ∈ cls.getD n [] := by rw [mem_occ, Int.toNat_natCast]; exact ⟨fun h => h.2.2, fun h => ⟨by omega, by omega, h⟩⟩
      by_cases e : l ∈ cls.getD n []
      · rw [if_pos (hiff.2 e), if_pos e, wrap_up (by omega)]
      · rw [if_neg (fun h => e (hiff.1 h)), if_neg e]; rfl
    · intro n hn
      have hm := getD_mem hn
      have h1 := hcnt.opn n hn
      rw [v1 n, u2]
      show (if (n : Int) ∈ occ cls (-l) then wrap64 (S.opn.getD n 0 - 1) else S.opn.getD n 0) = _
      have hle := opnN_le (S.trail.take d ++ [l]) (cls.getD n [])
      have hle2 := hlen _ hm
      rw [h1, opnN_less (hnd _ hm) hnb]
      have hiff : (n : Int) ∈ occ cls (-l) ↔ -l ∈ cls.getD n [] := by rw [mem_occ, Int.toNat_natCast]; exact ⟨fun h => h.2.2, fun h => ⟨by omega, by omega, h⟩⟩
      by_cases e : -l ∈ cls.getD n []
      · rw [if_pos (hiff.2 e), if_pos e, wrap_down (by omega)]
      · rw [if_neg (fun h => e (hiff.1 h)), if_neg e]; rfl
  have dV : ∀ x ∈ S.trail.take d ++ [l], x ∈ V.trail := fun x hx => by
    rw [tV]
    rcases List.mem_append.1 hx with hx | hx
    · exact List.mem_of_mem_take hx
    · rw [List.mem_singleton.1 hx]; exact hlm
  rw [hstep]
  exact Wy.looks hnd (occ cls (-l)) V iV yV cV dV (ro (-l))
theorem Wy.run {cls : List (List Int)} {F : List Int} (hnd : ∀ c ∈ cls, c.Nodup) (hlen : ∀ c ∈ cls, c.length ≤ 4611686018427387903) : ∀ (k : Nat) {S : St}, Runs cls F S → Wy cls F S → Wy cls F (runF k S)
  | 0, S, _, hW => hW
  | k + 1, S, h, hW => by
    unfold runF
    by_cases hg : goes S = true
    · rw [if_pos hg]
      exact Wy.run hnd hlen k (h.step hnd hlen hg).1 (Wy.step h hW hnd hlen hg)
    · rw [if_neg hg]; exact hW
theorem Wy.puts {cls : List (List Int)} {F : List Int} : ∀ (G : List Int) (S : St), Inv cls F S → Wy cls F S → (∀ l ∈ G, fm l = true ∧ l ∈ F) → Wy cls F (putsF S G).1
  | [], S, _, hW, _ => hW
  | l :: t, S, h, hW, hG => by
    obtain ⟨hf, hl⟩ := hG l (by simp)
    have h1 := Wy.put h hW l (-1) hf (.inl rfl) (fun _ => .inl ⟨rfl, hl⟩)
    unfold putsF
    split
    · exact Wy.puts t _ (h.put l (-1) hf (.fact hl)) h1 (fun x hx => hG x (by simp [hx]))
    · exact h1
theorem Built.wy {S : St} {cls : List (List Int)} (h : Built S cls) (F : List Int) : Wy cls F S :=
  ⟨fun w hw => .inl (by rw [h.why] at hw; exact List.eq_of_mem_replicate hw), fun i hi => by rw [h.tr] at hi; exact absurd hi (by simp), .inl h.bd⟩

theorem ran_wy (cs : List (List Int)) (F : List Int) (hf : ∀ l ∈ F, fm l = true) (hp : (putsF (newF cs cs.length) F).2 = true) :
    Runs (cs.map tidyL) F (ranSt (putsF (newF cs cs.length) F).1) ∧ Wy (cs.map tidyL) F (ranSt (putsF (newF cs cs.length) F).1) := by
  have hB := newF_built cs cs.length (Nat.le_refl _)
  rw [List.take_length] at hB
  obtain ⟨i0, c0⟩ := hB.inv F
  have y0 := hB.wy F
  have hnd : ∀ c ∈ cs.map tidyL, c.Nodup := fun c h => by obtain ⟨c', _, rfl⟩ := List.mem_map.1 h; exact tidy_nodup _
  have hlen : ∀ c ∈ cs.map tidyL, c.length ≤ 4611686018427387903 := fun c h => by obtain ⟨c', _, rfl⟩ := List.mem_map.1 h; have := tidy_len c'; omega
  obtain ⟨p1, p2⟩ := puts_inv F _ i0 c0 hB.dn hB.bd (fun l hl => ⟨hf l hl, hl⟩)
  have y1 := Wy.puts F _ i0 y0 (fun l hl => ⟨hf l hl, hl⟩)
  obtain ⟨j1, j2, j3, j4, _, j6⟩ := p1 hp
  generalize (putsF (newF cs cs.length) F).1 = S at *
  obtain ⟨b1, b2, _, b4, b5⟩ := j1.begin_ hnd j2 (cs.map tidyL).length (Nat.le_refl _)
  have y2 := Wy.begin_ j1 y1 hnd j2 (cs.map tidyL).length (Nat.le_refl _)
  have he : beginSt S = beginF S (cs.map tidyL).length := by unfold beginSt; rw [j1.cl]
  rw [← he] at b1 b2 b4 b5 y2
  have hz : (beginSt S).done.toNat = 0 := by rw [b5, j3]; rfl
  have hR : Runs (cs.map tidyL) F (beginSt S) := ⟨b1, by rw [hz]; simpa using b2, fun hb n hn => by rw [hz]; simpa using b4 hb n hn⟩
  exact ⟨(hR.run hnd hlen (fuel (beginSt S))).1, Wy.run hnd hlen _ hR y2⟩

def blameF (S : St) : Nat → List Int → List Int → Option (List Int)
  | 0, _, _ => none
  | g + 1, A, out =>
    if A.length = 0 then some out
    else if A.getD (A.length - 1) 0 = -1 ∨ A.getD (A.length - 1) 0 ∈ out then blameF S g (A.take (A.length - 1)) out
    else blameF S g (A.take (A.length - 1) ++ (S.clauses.getD (A.getD (A.length - 1) 0).toNat []).map (whyAt S)) (out ++ [A.getD (A.length - 1) 0])
def restB (cls : List (List Int)) (out : List Int) : Nat := (((List.range cls.length).filter fun n : Nat => !out.contains (n : Int)).map fun n => (cls.getD n []).length).sum
theorem rest_aux (f : Nat → Nat) (out : List Int) (m : Int) (hm : m ∉ out) (h0 : 0 ≤ m) : ∀ (l : List Nat), l.Nodup → ((l.filter fun n : Nat => !out.contains (n : Int)).map f).sum = ((l.filter fun n : Nat => !(out ++ [m]).contains (n : Int)).map f).sum + (if m.toNat ∈ l then f m.toNat else 0)
  | [], _ => by simp
  | x :: t, hn => by
    obtain ⟨h1, h2⟩ := List.nodup_cons.1 hn
    have ih := rest_aux f out m hm h0 t h2
    by_cases e : x = m.toNat
    · subst e
      have e1 : ((m.toNat : Nat) : Int) = m := by omega
      rw [List.filter_cons_of_pos (by simp [e1, hm]), List.filter_cons_of_neg (by simp [e1]), List.map_cons, List.sum_cons, ih, if_neg h1, if_pos (by simp)]
      omega
    · have e2 : ¬ ((x : Int) = m) := fun h => e (by omega)
      have em : (m.toNat ∈ x :: t) = (m.toNat ∈ t) := by simp [Ne.symm e]
      simp only [em]
      by_cases hx : (x : Int) ∈ out
      · rw [List.filter_cons_of_neg (by simp [hx]), List.filter_cons_of_neg (by simp [hx]), ih]
      · rw [List.filter_cons_of_pos (by simp [hx]), List.filter_cons_of_pos (by simp [hx, e2]), List.map_cons, List.map_cons, List.sum_cons, List.sum_cons, ih]
        omega
theorem rest_less (cls : List (List Int)) (out : List Int) (m : Int) (hm : m ∉ out) (h0 : 0 ≤ m) (h1 : m < cls.length) : restB cls out = restB cls (out ++ [m]) + (cls.getD m.toNat []).length := by
  have := rest_aux (fun n => (cls.getD n []).length) out m hm h0 (List.range cls.length) List.nodup_range
  unfold restB
  rw [this, if_pos (by rw [List.mem_range]; omega)]
def fuelB (S : St) : Nat := restB S.clauses [] + 2
def blameL (S : St) : List Int := (blameF S (fuelB S) [S.bad] []).getD []

structure Blm (S : St) (A out : List Int) : Prop where
  ra : ∀ n ∈ A, n = -1 ∨ (0 ≤ n ∧ n < S.clauses.length)
  ro : ∀ n ∈ out, 0 ≤ n ∧ n < S.clauses.length
  nd : out.Nodup
  fr : ∀ n ∈ out, ∀ l ∈ S.clauses.getD n.toNat [], whyAt S l = -1 ∨ whyAt S l ∈ out ∨ whyAt S l ∈ A
  bd : S.bad ∈ out ∨ S.bad ∈ A
  sr : ∀ n ∈ A ++ out, n = S.bad ∨ n ∈ S.why
theorem take_last {A : List Int} (h : A.length ≠ 0) : A.take (A.length - 1) ++ [A.getD (A.length - 1) 0] = A := by
  obtain ⟨n, hn⟩ : ∃ n, A.length = n + 1 := ⟨A.length - 1, by omega⟩
  rw [hn, Nat.add_sub_cancel, List.getD_eq_getElem?_getD, List.getElem?_eq_getElem (by omega), Option.getD_some, ← List.take_succ_eq_append_getElem (by omega)]
  exact List.take_of_length_le (by omega)
theorem mem_last {A : List Int} (h : A.length ≠ 0) (x : Int) : x ∈ A ↔ x ∈ A.take (A.length - 1) ∨ x = A.getD (A.length - 1) 0 := by
  conv => lhs; rw [← take_last h]
  simp
theorem Blm.pass {S : St} {A out : List Int} (h : Blm S A out) (h0 : A.length ≠ 0) (h1 : A.getD (A.length - 1) 0 = -1 ∨ A.getD (A.length - 1) 0 ∈ out) (hb : S.bad ≠ -1) : Blm S (A.take (A.length - 1)) out := by
  refine ⟨fun n hn => h.ra n (List.mem_of_mem_take hn), h.ro, h.nd, fun n hn l hl => ?_, ?_, fun n hn => h.sr n ?_⟩
  · rcases h.fr n hn l hl with e | e | e
    · exact .inl e
    · exact .inr (.inl e)
    · rcases (mem_last h0 _).1 e with e | e
      · exact .inr (.inr e)
      · rw [e]
        rcases h1 with h1 | h1
        · exact .inl h1
        · exact .inr (.inl h1)
  · rcases h.bd with e | e
    · exact .inl e
    · rcases (mem_last h0 _).1 e with e | e
      · exact .inr e
      · rcases h1 with h1 | h1
        · exact absurd (e.trans h1) hb
        · exact .inl (by rw [e]; exact h1)
  · rcases List.mem_append.1 hn with hn | hn
    · exact List.mem_append_left _ (List.mem_of_mem_take hn)
    · exact List.mem_append_right _ hn
theorem whyAt_mem {S : St} (hw : S.why.length = S.ids.length) {l : Int} (hk : S.ids.contains (lv l) = true) : whyAt S l ∈ S.why := by
  have hi : S.ids.idxOf (lv l) < S.why.length := by rw [hw]; exact List.idxOf_lt_length_of_mem (by simpa using hk)
  unfold whyAt
  rw [List.getD_eq_getElem?_getD, List.getElem?_eq_getElem hi]; exact List.getElem_mem hi
theorem Blm.tell {S : St} {A out : List Int} (h : Blm S A out) (h0 : A.length ≠ 0) (h1 : ¬ (A.getD (A.length - 1) 0 = -1 ∨ A.getD (A.length - 1) 0 ∈ out)) (hk : Known S) (hw : S.why.length = S.ids.length) (hr : ∀ w ∈ S.why, w = -1 ∨ (0 ≤ w ∧ w < S.clauses.length)) :
    Blm S (A.take (A.length - 1) ++ (S.clauses.getD (A.getD (A.length - 1) 0).toNat []).map (whyAt S)) (out ++ [A.getD (A.length - 1) 0]) := by
  have hm : A.getD (A.length - 1) 0 ∈ A := (mem_last h0 _).2 (.inr rfl)
  have hrg := (h.ra _ hm).resolve_left (fun e => h1 (.inl e))
  have hno : A.getD (A.length - 1) 0 ∉ out := fun e => h1 (.inr e)
  have hst := take_last h0
  generalize A.getD (A.length - 1) 0 = m at *
  generalize A.take (A.length - 1) = A' at *
  subst hst
  have hcm : ∀ l ∈ S.clauses.getD m.toNat [], S.ids.contains (lv l) = true := fun l hl => hk _ (getD_mem (by omega)) l hl
  refine ⟨fun n hn => ?_, fun n hn => ?_, ?_, fun n hn l hl => ?_, ?_, fun n hn => ?_⟩
  · rcases List.mem_append.1 hn with hn | hn
    · exact h.ra n (by simp [hn])
    · obtain ⟨l, hl, rfl⟩ := List.mem_map.1 hn
      exact hr _ (whyAt_mem hw (hcm l hl))
  · rcases List.mem_append.1 hn with hn | hn
    · exact h.ro n hn
    · rw [List.mem_singleton] at hn; subst hn; exact hrg
  · rw [List.nodup_append]
    exact ⟨h.nd, by simp, fun a ha b hb e => hno (by rw [List.mem_singleton] at hb; rw [← hb, ← e]; exact ha)⟩
  · rcases List.mem_append.1 hn with hn | hn
    · rcases h.fr n hn l hl with e | e | e
      · exact .inl e
      · exact .inr (.inl (by simp [e]))
      · rcases List.mem_append.1 e with e | e
        · exact .inr (.inr (by simp [e]))
        · exact .inr (.inl (by rw [List.mem_append]; exact .inr e))
    · rw [List.mem_singleton] at hn
      subst hn
      exact .inr (.inr (List.mem_append_right _ (List.mem_map_of_mem hl)))
  · rcases h.bd with e | e
    · exact .inl (by simp [e])
    · rcases List.mem_append.1 e with e | e
      · exact .inr (by simp [e])
      · exact .inl (by rw [List.mem_append]; exact .inr e)
  · rcases List.mem_append.1 hn with hn | hn
    · rcases List.mem_append.1 hn with hn | hn
      · exact h.sr n (by simp [hn])
      · obtain ⟨l, hl, rfl⟩ := List.mem_map.1 hn
        exact .inr (whyAt_mem hw (hcm l hl))
    · rcases List.mem_append.1 hn with hn | hn
      · exact h.sr n (by simp [hn])
      · exact h.sr n (by rw [List.mem_singleton] at hn; simp [hn])
theorem nodup_sub : ∀ (l m : List Int), l.Nodup → (∀ x ∈ l, x ∈ m) → l.length ≤ m.length
  | [], m, _, _ => by simp
  | x :: t, m, hn, hs => by
    obtain ⟨h1, h2⟩ := List.nodup_cons.1 hn
    have hx := hs x (by simp)
    have := nodup_sub t (m.erase x) h2 (fun y hy => (List.mem_erase_of_ne (fun e => h1 (by rw [← e]; exact hy))).2 (hs y (by simp [hy])))
    rw [List.length_erase_of_mem hx] at this
    have := List.length_pos_of_mem hx
    simp only [List.length_cons]
    omega
theorem Blm.out_le {S : St} {A out : List Int} (h : Blm S A out) (hO : Ok S) : out.length ≤ 1048578 := by
  have := nodup_sub out (S.bad :: S.why) h.nd (fun x hx => by
    rcases h.sr x (List.mem_append_right _ hx) with e | e
    · rw [e]; simp
    · simp [e])
  have h1 := hO.ids_le
  rw [List.length_cons, hO.lw] at this
  omega
theorem Blm.init {S : St} (hb : 0 ≤ S.bad ∧ S.bad < S.clauses.length) : Blm S [S.bad] [] :=
  ⟨fun n hn => by rw [List.mem_singleton] at hn; subst hn; exact .inr hb, by simp, List.nodup_nil, by simp, .inr (by simp), fun n hn => by simp at hn; exact .inl hn⟩

theorem blame_ends {S : St} (hk : Known S) (hw : S.why.length = S.ids.length) (hr : ∀ w ∈ S.why, w = -1 ∨ (0 ≤ w ∧ w < S.clauses.length)) (hb : S.bad ≠ -1) : ∀ (g : Nat) (A out : List Int), Blm S A out → A.length + restB S.clauses out < g → ∃ r, blameF S g A out = some r ∧ Blm S [] r
  | 0, A, out, h, hg => absurd hg (by omega)
  | g + 1, A, out, h, hg => by
    unfold blameF
    by_cases h0 : A.length = 0
    · rw [if_pos h0]
      have : A = [] := List.eq_nil_of_length_eq_zero h0
      subst this
      exact ⟨out, rfl, h⟩
    · rw [if_neg h0]
      by_cases h1 : A.getD (A.length - 1) 0 = -1 ∨ A.getD (A.length - 1) 0 ∈ out
      · rw [if_pos h1]
        exact blame_ends hk hw hr hb g _ _ (h.pass h0 h1 hb) (by rw [List.length_take]; omega)
      · rw [if_neg h1]
        have hm : A.getD (A.length - 1) 0 ∈ A := (mem_last h0 _).2 (.inr rfl)
        have hrg := (h.ra _ hm).resolve_left (fun e => h1 (.inl e))
        have hl := rest_less S.clauses out _ (fun e => h1 (.inr e)) hrg.1 hrg.2
        exact blame_ends hk hw hr hb g _ _ (h.tell h0 h1 hk hw hr) (by rw [List.length_append, List.length_take, List.length_map]; omega)

theorem blame_clash {cls : List (List Int)} {F : List Int} {S : St} (h : Inv cls F S) (hW : Wy cls F S) (hb : S.bad ≠ -1) :
    (∀ n ∈ blameL S, 0 ≤ n ∧ n < cls.length) ∧ Clash ((blameL S).map fun n => cls.getD n.toNat []) F := by
  obtain ⟨bn, hbn, hb1, hb2⟩ := hW.bad.resolve_left hb
  have hcl := h.cl
  have hr : ∀ w ∈ S.why, w = -1 ∨ (0 ≤ w ∧ w < S.clauses.length) := by rw [hcl]; exact hW.rg
  obtain ⟨r, e, hr⟩ := blame_ends h.kn h.good.ok.lw hr hb (fuelB S) [S.bad] [] (Blm.init (by rw [hcl, hbn]; omega)) (by unfold fuelB; simp only [List.length_singleton]; omega)
  have hB : blameL S = r := by unfold blameL; rw [e]; rfl
  rw [hB]
  have hbo : S.bad ∈ r := hr.bd.resolve_right (by simp)
  have hmemc : ∀ n : Nat, (n : Int) ∈ r → cls.getD n [] ∈ r.map fun n => cls.getD n.toNat [] := fun n hn => by
    have := List.mem_map_of_mem (f := fun n : Int => cls.getD n.toNat []) hn
    rwa [Int.toNat_natCast] at this
  have hfc : ∀ n : Nat, n < cls.length → ∀ x ∈ cls.getD n [], fm x = true := fun n hn x hx => h.good.cf _ (by rw [hcl]; exact getD_mem hn) x hx
  have hfr : ∀ n : Nat, (n : Int) ∈ r → ∀ x ∈ cls.getD n [], whyAt S x = -1 ∨ whyAt S x ∈ r := fun n hn x hx => by
    rcases hr.fr n hn x (by rw [Int.toNat_natCast, hcl]; exact hx) with e | e | e
    · exact .inl e
    · exact .inr e
    · exact absurd e (by simp)
  have key : ∀ (i : Nat), i < S.trail.length → (whyAt S (S.trail.getD i 0) = -1 ∨ whyAt S (S.trail.getD i 0) ∈ r) → UP (r.map fun n => cls.getD n.toNat []) F (S.trail.getD i 0) := by
    intro i
    induction i using Nat.strongRecOn with
    | ind i ih =>
      intro hi hy
      rcases hW.tr i hi with ⟨_, hF⟩ | ⟨n, hn, hlt, hmem, hoth⟩
      · exact .fact hF
      · have hnr : (n : Int) ∈ r := by
          rcases hy with hy | hy
          · rw [hn] at hy; omega
          · rw [hn] at hy; exact hy
        refine .unit (hmemc n hnr) hmem (fun x hx hne => ?_)
        obtain ⟨j, hj, hje⟩ := List.getElem_of_mem (hoth x hx hne)
        rw [List.length_take] at hj
        rw [List.getElem_take] at hje
        have hj2 : S.trail.getD j 0 = -x := by rw [List.getD_eq_getElem?_getD, List.getElem?_eq_getElem (by omega)]; exact hje
        have := ih j (by omega) (by omega) (by rw [hj2, whyAt_neg S (hfc n hlt x hx)]; exact hfr n hnr x hx)
        rwa [hj2] at this
  refine ⟨fun n hn => by have := hr.ro n hn; rw [hcl] at this; exact this, .inr ⟨_, hmemc bn (by rw [← hbn]; exact hbo), fun x hx => ?_⟩⟩
  obtain ⟨j, hj, hje⟩ := List.getElem_of_mem (hb2 x hx)
  have hj2 : S.trail.getD j 0 = -x := by rw [List.getD_eq_getElem?_getD, List.getElem?_eq_getElem hj]; exact hje
  have := key j hj (by rw [hj2, whyAt_neg S (hfc bn hb1 x hx)]; exact hfr bn (by rw [← hbn]; exact hbo) x hx)
  rwa [hj2] at this

end Go.Proofs.Ytfljggodnnpeiaa.Spr
