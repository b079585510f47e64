/- Part of the proof of TrimNumbers: what the law uses of the text UpD. -/
import Derived.Test.YtfljggodnnpeiaaZNUpC
namespace Go.Proofs.Ytfljggodnnpeiaa.Spr
open Go.RowKit Go.Proofs.Ytfljggodnnpeiaa.Lit

theorem look_pre (S : St) (n : Nat) : S.trail <+: (lookSt S n).trail := by
  unfold lookSt
  split
  · exact List.prefix_refl _
  · split
    · exact List.prefix_refl _
    · unfold unitSt
      split
      · rcases (putSt_fields S _ _).2.2.2.2.2.2.2 with e | e
        · rw [e]; exact List.prefix_refl _
        · rw [e]; exact List.prefix_append _ _
      · exact List.prefix_refl _
theorem looks_pre : ∀ (ns : List Int) (S : St), S.trail <+: (ns.foldl lookIf S).trail
  | [], _ => List.prefix_refl _
  | n :: t, S => by
    rw [List.foldl_cons]
    refine List.IsPrefix.trans ?_ (looks_pre t _)
    unfold lookIf
    split
    · exact look_pre S _
    · exact List.prefix_refl _
theorem pre_take {T T' : List Int} (h : T <+: T') {k : Nat} (hk : k ≤ T.length) : T'.take k = T.take k := by
  obtain ⟨t, rfl⟩ := h
  exact List.take_append_of_le_length hk

theorem Inv.same {cls : List (List Int)} {F : List Int} {S S' : St} (h : Inv cls F S) (hg : Good S') (h1 : S'.clauses = S.clauses) (h2 : S'.ids = S.ids) (h3 : S'.inn = S.inn) (h4 : S'.trail = S.trail) (h5 : S'.value = S.value) (h6 : S'.bad = S.bad) : Inv cls F S' := by
  have hv : ∀ l, vl S' l = vl S l := fun l => by unfold vl; rw [h2, h5]
  have hi : ∀ l, inAt S' l = inAt S l := fun l => by unfold inAt; rw [h2, h3]
  refine ⟨hg, h1.trans h.cl, ?_, fun l hl hk => ?_, fun l hl => ?_, by rw [h4]; exact h.nd, by rw [h4]; exact h.snd, by rw [h6]; exact h.bad⟩
  · intro c hc l hl
    rw [h2]; rw [h1] at hc; exact h.kn c hc l hl
  · rw [hi]; rw [h2] at hk; exact h.inn l hl hk
  · rw [h4, hv]; exact h.tv l hl

structure Runs (cls : List (List Int)) (F : List Int) (S : St) : Prop where
  inv : Inv cls F S
  cnt : Cnt cls (S.trail.take S.done.toNat) S
  lk : S.bad = -1 → ∀ n, n < cls.length → Looked (S.trail.take S.done.toNat) S.trail (cls.getD n [])

theorem wrap_up {a : Nat} (h : a ≤ 4611686018427387904) : wrap64 ((a : Int) + 1) = ((a + 1 : Nat) : Int) := by unfold wrap64; omega
theorem wrap_down {a : Nat} (h : a ≤ 4611686018427387904) : wrap64 (((a + 1 : Nat) : Int) - 1) = (a : Int) := by unfold wrap64; omega

theorem take_one {T : List Int} {k : Nat} (h : k < T.length) : T.take (k + 1) = T.take k ++ [T.getD k 0] := by
  rw [List.take_succ_eq_append_getElem h, List.getD_eq_getElem?_getD, List.getElem?_eq_getElem h]; rfl
theorem not_before {T : List Int} (hn : T.Nodup) {k : Nat} (h : k < T.length) : T.getD k 0 ∉ T.take k := by
  have h1 : (T.take (k + 1)).Nodup := hn.sublist (List.take_sublist _ _)
  rw [take_one h, List.nodup_append] at h1
  exact fun hm => h1.2.2 _ hm _ (by simp) rfl

set_option maxHeartbeats 1000000 in
theorem Runs.step {cls : List (List Int)} {F : List Int} {S : St} (h : Runs cls F S) (hnd : ∀ c ∈ cls, c.Nodup) (hlen : ∀ c ∈ cls, c.length ≤ 4611686018427387903) (hg : goes S = true) : Runs cls F (stepSt S) ∧ (stepSt S).ids = S.ids ∧ S.trail <+: (stepSt S).trail := by
  have hG := h.inv.good
  obtain ⟨hb, hdl⟩ : S.bad = -1 ∧ S.done < S.trail.length := of_decide_eq_true hg
  obtain ⟨hp, hr⟩ := head_in hG hg
  have hL := stepSt_like (Like.refl hG) h.inv.kn hg _ _ hp hr
  have hd0 := hG.dn
  obtain ⟨d, hd⟩ : ∃ d : Nat, S.done = d := ⟨S.done.toNat, by omega⟩
  have hdn : d < S.trail.length := by omega
  have hdt : S.done.toNat = d := by omega
  have hlm : S.trail.getD d 0 ∈ S.trail := by rw [List.getD_eq_getElem?_getD, List.getElem?_eq_getElem hdn]; exact List.getElem_mem hdn
  have hfl := hG.tf _ hlm
  have hkl := hG.tk _ hlm
  have hkn : S.ids.contains (lv (-(S.trail.getD d 0))) = true := by rw [lv_neg hfl]; exact hkl
  have i1 := h.inv.inn _ hfl hkl
  have i2 := h.inv.inn _ (fm_neg hfl) hkn
  have hnb := not_before h.inv.nd hdn
  have hcnt := h.cnt
  have hlk := h.lk hb
  rw [hdt] at hcnt hlk
  have hdone : (stepSt S).done.toNat = d + 1 := by rw [stepSt_done]; omega
  generalize hl : S.trail.getD d 0 = l at *
  have hstep : stepSt S = (occ cls (-l)).foldl lookIf ((occ cls (-l)).foldl downOpn ((occ cls l).foldl upOn (stepA S))) := by
    unfold stepSt; rw [hdt, hl, i1, i2]
  have hlo : S.opn.length = cls.length := by rw [hG.ok.lo, h.inv.cl]
  have hln : S.on.length = cls.length := by rw [hG.ok.ln, h.inv.cl]
  have ro : ∀ x, ∀ n ∈ occ cls x, 0 ≤ n ∧ n < (cls.length : Int) := fun x n hn => by have := (mem_occ cls x n).1 hn; exact ⟨this.1, this.2.1⟩
  obtain ⟨u1, u2, u3, u4, u5, u6, u7, u8, u9⟩ := fold_up (occ cls l) (stepA S) (occ_nodup _ _) (fun n hn => by have := ro l n hn; show 0 ≤ n ∧ n < (S.on.length : Int); omega)
  have gU : Good ((occ cls l).foldl upOn (stepA S)) := fold_all upOn Good _ (fun s n _ hs => hs.upOn n) _ ((Like.refl hG).stepA hg).good
  generalize hU : (occ cls l).foldl upOn (stepA S) = U at *
  obtain ⟨v1, v2, v3, v4, v5, v6, v7, v8, v9⟩ := fold_down (occ cls (-l)) U (occ_nodup _ _) (fun n hn => by have := ro (-l) n hn; rw [u2]; show 0 ≤ n ∧ n < (S.opn.length : Int); omega)
  have gV : Good ((occ cls (-l)).foldl downOpn U) := fold_all downOpn Good _ (fun s n _ hs => hs.downOpn n) _ gU
  generalize hV : (occ cls (-l)).foldl downOpn U = V at *
  have iV : Inv cls F V := h.inv.same gV (v3.trans u3) (v4.trans u4) (v5.trans u5) (v6.trans u6) (v9.trans u9) (v8.trans u8)
  have tV : V.trail = S.trail := v6.trans u6
  have bV : V.bad = -1 := (v8.trans u8).trans hb
  have cV : Cnt cls (S.trail.take d ++ [l]) V := by
    constructor
    · intro n hn
      have hm := getD_mem hn
      have h1 := hcnt.on n hn
      rw [v2, u1 n]
      show (if (n : Int) ∈ occ cls l then wrap64 (S.on.getD n 0 + 1) else S.on.getD n 0) = _
      rw [h1, posN_more (hnd _ hm) hnb]
      have hle := posN_le (S.trail.take d) (cls.getD n [])
      have hle2 := hlen _ hm
      have hiff : (n : Int) ∈ occ cls l ↔ l ∈ cls.getD n [] := by rw [mem_occ, Int.toNat_natCast]; exact ⟨fun h => h.2.2, fun h => ⟨by omega, by omega, h⟩⟩
      by_cases e : l ∈ cls.getD n []
      · rw [if_pos (hiff.2 e), if_pos e, wrap_up (by omega)]
      · rw [if_neg (fun h => e (hiff.1 h)), if_neg e]; rfl
    · intro n hn
      have hm := getD_mem hn
      have h1 := hcnt.opn n hn
      rw [v1 n, u2]
      show (if (n : Int) ∈ occ cls (-l) then wrap64 (S.opn.getD n 0 - 1) else S.opn.getD n 0) = _
      have hle := opnN_le (S.trail.take d ++ [l]) (cls.getD n [])
      have hle2 := hlen _ hm
      rw [h1, opnN_less (hnd _ hm) hnb]
      have hiff : (n : Int) ∈ occ cls (-l) ↔ -l ∈ cls.getD n [] := by rw [mem_occ, Int.toNat_natCast]; exact ⟨fun h => h.2.2, fun h => ⟨by omega, by omega, h⟩⟩
      by_cases e : -l ∈ cls.getD n []
      · rw [if_pos (hiff.2 e), if_pos e, wrap_down (by omega)]
      · rw [if_neg (fun h => e (hiff.1 h)), if_neg e]; rfl
  have dV : ∀ x ∈ S.trail.take d ++ [l], x ∈ V.trail := fun x hx => by
    rw [tV]
    rcases List.mem_append.1 hx with hx | hx
    · exact List.mem_of_mem_take hx
    · rw [List.mem_singleton.1 hx]; exact hlm
  obtain ⟨w1, w2, w3, w4⟩ := Inv.looks hnd (occ cls (-l)) V iV cV dV (ro (-l))
  have wp := looks_pre (occ cls (-l)) V
  rw [← hstep] at w1 w2 w3 w4 wp
  rw [tV] at wp w3
  have htake : (stepSt S).trail.take (stepSt S).done.toNat = S.trail.take d ++ [l] := by
    rw [hdone, pre_take wp (by omega), take_one hdn, hl]
  refine ⟨⟨w1, by rw [htake]; exact w2, fun hb2 n hn => ?_⟩, hL.ids, wp⟩
  rw [htake]
  obtain ⟨_, w5⟩ := w4 hb2
  by_cases e : -l ∈ cls.getD n []
  · have := w5 n ((mem_occ _ _ _).2 ⟨by omega, by omega, by rw [Int.toNat_natCast]; exact e⟩)
    rw [Int.toNat_natCast] at this
    exact this
  · exact ((hlk n hn).mono w3).more e

theorem Runs.run {cls : List (List Int)} {F : List Int} (hnd : ∀ c ∈ cls, c.Nodup) (hlen : ∀ c ∈ cls, c.length ≤ 4611686018427387903) : ∀ (k : Nat) {S : St}, Runs cls F S →
    Runs cls F (runF k S) ∧ (runF k S).ids = S.ids ∧ S.trail <+: (runF k S).trail ∧ ((S.ids.length : Int) - S.done < k → goes (runF k S) = false)
  | 0, S, h => ⟨h, rfl, List.prefix_refl _, fun hk => by have := h.inv.good.dn; have := h.inv.good.ok.trail_ids; omega⟩
  | k + 1, S, h => by
    unfold runF
    by_cases hg : goes S = true
    · rw [if_pos hg]
      obtain ⟨h1, h2, h3⟩ := h.step hnd hlen hg
      obtain ⟨g1, g2, g3, g4⟩ := Runs.run hnd hlen k h1
      refine ⟨g1, g2.trans h2, h3.trans g3, fun hk => g4 ?_⟩
      rw [h2, stepSt_done]; omega
    · rw [if_neg hg]
      exact ⟨h, rfl, List.prefix_refl _, fun _ => by simpa using hg⟩
theorem puts_inv {cls : List (List Int)} {F : List Int} : ∀ (G : List Int) (S : St), Inv cls F S → Cnt cls [] S → S.done = 0 → S.bad = -1 → (∀ l ∈ G, fm l = true ∧ l ∈ F) →
    ((putsF S G).2 = true → Inv cls F (putsF S G).1 ∧ Cnt cls [] (putsF S G).1 ∧ (putsF S G).1.done = 0 ∧ (putsF S G).1.bad = -1 ∧ S.trail <+: (putsF S G).1.trail ∧ ∀ l ∈ G, l ∈ (putsF S G).1.trail) ∧ ((putsF S G).2 = false → Clash cls F)
  | [], S, h, hc, hd, hb, _ => ⟨fun _ => ⟨h, hc, hd, hb, List.prefix_refl _, by simp [putsF]⟩, fun he => by cases he⟩
  | l :: t, S, h, hc, hd, hb, hG => by
    obtain ⟨hf, hl⟩ := hG l (by simp)
    unfold putsF
    by_cases hp : putOk S l = true
    · rw [if_pos hp]
      have hv : vl S l ≠ -1 := by have := of_decide_eq_true hp; rwa [vl_place h.good.ok] at this
      obtain ⟨e1, e2, e3, e4, e5, _, _, e8⟩ := putSt_fields S l (-1)
      have hi := h.put l (-1) hf (.fact hl)
      have hcp : Cnt cls [] (putSt S l (-1)) := ⟨by rw [e3]; exact hc.on, by rw [e2]; exact hc.opn⟩
      obtain ⟨g1, g2⟩ := puts_inv t _ hi hcp (e4.trans hd) (e5.trans hb) (fun x hx => hG x (by simp [hx]))
      refine ⟨fun he => ?_, g2⟩
      obtain ⟨k1, k2, k3, k4, k5, k6⟩ := g1 he
      have hpre : S.trail <+: (putSt S l (-1)).trail := by
        rcases e8 with e | e
        · rw [e]; exact List.prefix_refl _
        · rw [e]; exact List.prefix_append _ _
      refine ⟨k1, k2, k3, k4, hpre.trans k5, fun x hx => ?_⟩
      rcases List.mem_cons.1 hx with e | hx
      · rw [e]
        refine k5.subset ?_
        rw [put_trail h.good.ok]
        by_cases h0 : vl S l = 0
        · rw [if_pos h0]; simp
        · rw [if_neg h0, h.tv l hf]
          rcases vl_cases h.good.ok l with e | e | e
          · exact e
          · exact absurd e hv
          · exact absurd e h0
      · exact k6 x hx
    · rw [if_neg hp]
      refine ⟨fun he => (by cases he), fun _ => .inl ⟨l, .fact hl, h.snd _ ?_⟩⟩
      have hv : ¬ (vl (placeSt S l) l ≠ -1) := of_decide_eq_false (Bool.eq_false_iff.2 hp)
      rw [vl_place h.good.ok] at hv
      exact (h.tneg hf).2 (by omega)

theorem Built.inv {S : St} {cls : List (List Int)} (h : Built S cls) (F : List Int) : Inv cls F S ∧ Cnt cls [] S := by
  have hok := h.ok
  have hi : ∀ c ∈ S.inn, ∀ n ∈ c, 0 ≤ n ∧ n < (S.clauses.length : Int) := fun c hc n hn => by
    obtain ⟨p, hp, he⟩ := List.getElem_of_mem hc
    obtain ⟨l, h1, h2, h3⟩ := h.lit p hp
    have h4 := h.inn l h1 h2
    unfold inAt at h4
    rw [h3, Int.toNat_natCast, List.getD_eq_getElem?_getD, List.getElem?_eq_getElem hp, Option.getD_some, he] at h4
    rw [h4, mem_occ] at hn
    rw [h.cl]; exact ⟨hn.1, hn.2.1⟩
  have hg : Good S := ⟨hok, by rw [h.tr]; simp, by rw [h.tr]; simp, fun c hc l hl => (h.kn c (by rw [← h.cl]; exact hc) l hl).1, hi, by rw [h.dn, h.tr]; simp⟩
  have hv : ∀ l, vl S l = 0 := fun l => by
    unfold vl
    rw [h.val]
    have : (List.replicate S.ids.length (0 : Int)).getD (S.ids.idxOf (lv l)) 0 = 0 := by
      rw [List.getD_eq_getElem?_getD, List.getElem?_replicate]; split <;> rfl
    rw [this]
    split
    · split <;> rfl
    · rfl
  refine ⟨⟨hg, h.cl, fun c hc l hl => (h.kn c (by rw [← h.cl]; exact hc) l hl).2, h.inn, fun l _ => ?_, by rw [h.tr]; simp, by rw [h.tr]; simp, fun hb => absurd h.bd hb⟩, fun n hn => ?_, fun n hn => ?_⟩
  · rw [h.tr, hv]; simp
  · rw [h.on, List.getD_eq_getElem?_getD, List.getElem?_replicate]
    have : posN [] (cls.getD n []) = 0 := by unfold posN; simp
    rw [this]; split <;> rfl
  · rw [h.opn, List.getD_eq_getElem?_getD, List.getElem?_map, List.getD_eq_getElem?_getD, List.getElem?_eq_getElem hn]
    unfold opnN
    have : cls[n].filter (fun x => !([] : List Int).contains (-x)) = cls[n] := List.filter_eq_self.2 (by simp)
    rw [Option.getD_some, this]; rfl

theorem tidy_len (c : List Int) : (tidyL c).length ≤ 2097152 := by
  have hr := tidy_rising c
  have hf : ∀ l ∈ tidyL c, fm l = true := fun l hl => ((mem_tidy _ l).1 hl).2
  have hn : ((tidyL c).map ix).Nodup := List.Pairwise.map _ (fun a b h => by omega) hr
  have := nodup_le 2097152 _ hn (fun v hv => by
    obtain ⟨l, hl, rfl⟩ := List.mem_map.1 hv
    have h1 := fm_true (hf l hl)
    have h0 := hf l hl
    unfold ix
    rw [if_pos h0]
    split <;> omega)
  simpa using this

end Go.Proofs.Ytfljggodnnpeiaa.Spr
