/- Part of the proof of ForwardScript: what the law uses of the text FcR. -/
import Derived.Test.YtcaoobdbgdldaaaGreatDoorZPFcP
namespace Go.Proofs.YtcaoobdbgdldaaaGreatDoor.Rfw
open Go.RowKit Go.Proofs.YtcaoobdbgdldaaaGreatDoor.Lit Go.Proofs.YtcaoobdbgdldaaaGreatDoor.Spr Go.Proofs.YtcaoobdbgdldaaaGreatDoor.Rf Go.Proofs.YtcaoobdbgdldaaaGreatDoor.Fwd
set_option linter.unusedVariables false
set_option linter.unusedSimpArgs false

structure Rel (F : Fw) (A : List (List Int)) : Prop where
  p : F.ms.Perm (A.map tidyL)
  a : ∀ d, d ∈ F.all ↔ d ∈ F.ms
  f : ∀ a ∈ A, ∀ x ∈ a, fm x = true
  v : 0 ≤ F.vars ∧ F.vars ≤ 1048576
  w : ∀ d ∈ F.all, ∀ x ∈ d, lv x ≤ F.vars
  o : F.done = false
theorem Rel.mem {F : Fw} {A : List (List Int)} (h : Rel F A) (d : List Int) : d ∈ F.ms ↔ ∃ a ∈ A, tidyL a = d := by rw [h.p.mem_iff, List.mem_map]
theorem Rel.fm {F : Fw} {A : List (List Int)} (h : Rel F A) : ∀ d ∈ F.all, ∀ x ∈ d, Lit.fm x = true := fun d hd x hx => by
  obtain ⟨a, _, e⟩ := (h.mem d).1 ((h.a d).1 hd)
  rw [← e] at hx
  exact ((mem_tidy a x).1 hx).2
theorem tidy_same {a : List Int} (h : ∀ x ∈ a, Lit.fm x = true) (x : Int) : x ∈ tidyL a ↔ x ∈ a := by rw [mem_tidy]; exact ⟨fun k => k.1, fun k => ⟨k, h x k⟩⟩
theorem Rel.same {F : Fw} {A : List (List Int)} (h : Rel F A) : SameC F.all A := by
  constructor
  · intro d hd
    obtain ⟨a, ha, e⟩ := (h.mem d).1 ((h.a d).1 hd)
    exact ⟨a, ha, fun x => by rw [← e, tidy_same (h.f a ha)]⟩
  · intro a ha
    exact ⟨tidyL a, (h.a _).2 ((h.mem _).2 ⟨a, ha, rfl⟩), fun x => (tidy_same (h.f a ha) x).symm⟩
theorem formed_of {v : Int} {cs : List (List Int)} (h0 : 0 ≤ v) (h1 : v ≤ 1048576) (hf : ∀ d ∈ cs, ∀ x ∈ d, Lit.fm x = true) (hw : ∀ d ∈ cs, ∀ x ∈ d, lv x ≤ v) : formedB v cs = true := by
  unfold formedB
  simp only [Bool.and_eq_true, decide_eq_true_eq]
  refine ⟨⟨h0, h1⟩, List.all_eq_true.2 fun c hc => ?_⟩
  unfold withinB
  rw [Bool.and_eq_true]
  exact ⟨List.all_eq_true.2 (hf c hc), List.all_eq_true.2 fun x hx => decide_eq_true (hw c hc x hx)⟩
theorem Rel.formed {F : Fw} {A : List (List Int)} (h : Rel F A) : formedB F.vars F.all = true := formed_of h.v.1 h.v.2 h.fm h.w
theorem Rel.formedA {F : Fw} {A : List (List Int)} (h : Rel F A) : formedB 1048576 A = true := formed_of (by decide) (by decide) h.f fun d hd x hx => (lv_bd x).2
theorem Rel.kind {F : Fw} {A : List (List Int)} (h : Rel F A) {c : List Int} (hc : c.all Lit.fm = true) : kindR F.vars F.all c = (kindA 1048576 A c).1 := by
  have e1 := follows_sc h.same h.formed h.formedA (List.all_eq_true.1 hc)
  have e2 := safe_sc h.same c h.formed h.formedA
  unfold kindR kindA
  rw [if_pos h.formedA, if_pos hc, e1, e2]
  split
  · rfl
  · split <;> rfl

theorem reach_ge : ∀ (t : List Int) (v : Int), v ≤ reachV v t ∧ (∀ x ∈ t, lv x ≤ reachV v t) ∧ (v ≤ 1048576 → reachV v t ≤ 1048576)
  | [], v => ⟨Int.le_refl _, (fun x hx => by cases hx), fun h => h⟩
  | y :: t, v => by
    obtain ⟨h1, h2, h3⟩ := reach_ge t (max v (lv y))
    have hb := (lv_bd y).2
    have e : reachV v (y :: t) = reachV (max v (lv y)) t := rfl
    rw [e]
    refine ⟨by omega, fun x hx => ?_, fun h => h3 (by omega)⟩
    rcases List.mem_cons.1 hx with rfl | hx
    · omega
    · exact h2 x hx
theorem Rel.put {F : Fw} {A : List (List Int)} (h : Rel F A) {c : List Int} (hc : ∀ x ∈ c, Lit.fm x = true) : Rel (putW F c) (A ++ [c]) := by
  obtain ⟨r1, r2, r3⟩ := reach_ge (tidyL c) F.vars
  have hall : ∀ d, d ∈ (putW F c).all ↔ d ∈ F.ms ∨ d = tidyL c := fun d => by
    unfold putW
    dsimp only
    split
    · rw [List.mem_append, List.mem_singleton, h.a]
    · rename_i hcnt
      have hm : tidyL c ∈ F.ms := List.count_pos_iff.1 (by omega)
      rw [h.a]
      exact ⟨.inl, fun k => k.elim id fun e => e ▸ hm⟩
  refine ⟨?_, fun d => ?_, fun a ha x hx => ?_, ⟨?_, ?_⟩, fun d hd x hx => ?_, h.o⟩
  · show (F.ms ++ [tidyL c]).Perm ((A ++ [c]).map tidyL)
    rw [List.map_append]
    exact h.p.append_right _
  · rw [hall d]
    show _ ↔ d ∈ F.ms ++ [tidyL c]
    rw [List.mem_append, List.mem_singleton]
  · rcases List.mem_append.1 ha with e | e
    · exact h.f a e x hx
    · rw [List.mem_singleton.1 e] at hx; exact hc x hx
  · show 0 ≤ reachV F.vars (tidyL c)
    have := h.v.1; omega
  · show reachV F.vars (tidyL c) ≤ 1048576
    exact r3 h.v.2
  · show lv x ≤ reachV F.vars (tidyL c)
    rcases (hall d).1 hd with e | e
    · have := h.w d ((h.a d).2 e) x hx; omega
    · rw [e] at hx; exact r2 x hx
theorem Rel.new (cs : List (List Int)) (h : ∀ c ∈ cs, ∀ x ∈ c, Lit.fm x = true) : Rel (newW cs) cs := by
  have key : ∀ (l : List (List Int)) (F : Fw) (A : List (List Int)), (∀ c ∈ l, ∀ x ∈ c, Lit.fm x = true) → Rel F A → Rel (l.foldl putW F) (A ++ l) := by
    intro l
    induction l with
    | nil => intro F A _ hr; rw [List.append_nil]; exact hr
    | cons c t ih =>
      intro F A hl hr
      have := ih (putW F c) (A ++ [c]) (fun d hd => hl d (List.mem_cons_of_mem _ hd)) (hr.put (hl c List.mem_cons_self))
      rw [List.append_assoc] at this
      exact this
  have := key cs ⟨[], [], 0, false⟩ [] h ⟨List.Perm.refl _, fun d => Iff.rfl, fun a ha => (by cases ha), ⟨by decide, by decide⟩, fun d hd => (by cases hd), rfl⟩
  rw [List.nil_append] at this
  exact this

theorem Rel.known {F : Fw} {A : List (List Int)} (h : Rel F A) {c : List Int} (hc : ∀ x ∈ c, Lit.fm x = true) : knownR F (tidyL c) = rKnown A c := by
  classical
  obtain ⟨p1, p2⟩ := closed_up F.all [] (fun x hx => by cases hx) h.fm
  have hask : askedI F.vars F.all [] = 0 := by
    unfold askedI
    rw [if_pos (by rw [h.formed]; rfl)]
  unfold knownR closeR
  rw [if_pos hask]
  cases hcl : (closedSt F.all []).2 with
  | false =>
    simp only [Bool.false_eq_true, ↓reduceIte]
    exact (decide_eq_true (.inl ((clash_sc h.same []).1 (p2 hcl)))).symm
  | true =>
    obtain ⟨_, _, q1, _, q2⟩ := p1 hcl
    simp only [Bool.false_eq_true, ↓reduceIte]
    generalize (closedSt F.all []).1.trail = tr at q1
    have hfu : ∀ x, UP F.all [] x → Lit.fm x = true := fun x hx => hx.of (P := fun x => Lit.fm x = true) (fun y hy => by cases hy) h.fm
    have hL : ∀ x, x ∈ tidyL tr ↔ UP A [] x := fun x => by
      rw [mem_tidy, q1 x, ← up_sc h.same]
      exact ⟨fun k => k.1, fun k => ⟨k, hfu x k⟩⟩
    have hna : ¬ Clash A [] := fun k => q2 ((clash_sc h.same []).2 k)
    have hcon : ∀ y ∈ tidyL tr, y ≠ 0 ∧ -y ∉ tidyL tr := fun y hy => by
      have hy1 := (hL y).1 hy
      exact ⟨fm_ne (hfu y ((up_sc h.same [] y).2 hy1)), fun e => hna (.inl ⟨y, hy1, (hL _).1 e⟩)⟩
    generalize tidyL tr = L at *
    have hV : ∀ x, x ≠ 0 → (isV L x = 1 ↔ UP A [] x) ∧ (isV L x = -1 ↔ UP A [] (-x)) := fun x hx0 => by
      rw [isV_of hcon x, ← hL x, ← hL (-x)]
      by_cases h1 : x ∈ L
      · rw [if_pos h1]
        exact ⟨⟨fun _ => h1, fun _ => rfl⟩, ⟨fun e => absurd e (by decide), fun e => absurd e (hcon x h1).2⟩⟩
      · rw [if_neg h1]
        by_cases h2 : -x ∈ L
        · rw [if_pos h2]
          exact ⟨⟨fun e => absurd e (by decide), fun e => absurd e h1⟩, ⟨fun _ => h2, fun _ => rfl⟩⟩
        · rw [if_neg h2]
          exact ⟨⟨fun e => absurd e (by decide), fun e => absurd e h1⟩, ⟨fun e => absurd e (by decide), fun e => absurd e h2⟩⟩
    have hm := tidy_same hc
    have hcnt := counts_iff L (tidyL c) (tidy_nodup c)
    rw [Bool.eq_iff_iff, Bool.and_eq_true, decide_eq_true_eq, decide_eq_true_eq, hcnt]
    unfold rKnown
    rw [decide_eq_true_eq]
    constructor
    · rintro ⟨x, hx, hx1, hx2⟩
      have hxc := (hm x).1 hx
      exact .inr ⟨x, hxc, ((hV x (fm_ne (hc x hxc))).1).1 hx1, fun y hy hne => ((hV y (fm_ne (hc y hy))).2).1 (hx2 y ((hm y).2 hy) hne)⟩
    · rintro (k | ⟨x, hx, hx1, hx2⟩)
      · exact absurd k hna
      · exact ⟨x, (hm x).2 hx, ((hV x (fm_ne (hc x hx))).1).2 hx1, fun y hy hne => ((hV y (fm_ne (hc y ((hm y).1 hy)))).2).2 (hx2 y ((hm y).1 hy) hne)⟩

theorem at_spec (A : List (List Int)) (c : List Int) : ∀ k, (atN A c k < 0 ∧ ∀ j, j < k → tidyL (A.getD j []) ≠ tidyL c) ∨ ∃ p : Nat, atN A c k = p ∧ p < k ∧ tidyL (A.getD p []) = tidyL c
  | 0 => .inl ⟨by unfold atN; decide, fun j hj => absurd hj (by omega)⟩
  | k + 1 => by
    unfold atN
    by_cases h : tidyL (A.getD k []) = tidyL c
    · rw [if_pos h]
      exact .inr ⟨k, rfl, by omega, h⟩
    · rw [if_neg h]
      rcases at_spec A c k with ⟨h1, h2⟩ | ⟨p, h1, h2, h3⟩
      · refine .inl ⟨h1, fun j hj => ?_⟩
        rcases Nat.lt_or_ge j k with e | e
        · exact h2 j e
        · obtain rfl : j = k := by omega
          exact h
      · exact .inr ⟨p, h1, by omega, h3⟩
theorem out_before (A : List (List Int)) (p : Nat) (hA : p < A.length) : ∀ k, k ≤ p → outN A p k = A.take k
  | 0, _ => rfl
  | k + 1, h => by
    unfold outN
    rw [if_neg (by omega), out_before A p hA k (by omega), List.take_add_one, List.getD_eq_getElem?_getD, List.getElem?_eq_getElem (by omega)]
    rfl
theorem out_perm (A : List (List Int)) (p : Nat) (hA : p < A.length) : ∀ k, p < k → k ≤ A.length → (A.take k).Perm (A.getD p [] :: outN A p k)
  | 0, h, _ => absurd h (by omega)
  | k + 1, h, hk => by
    have hlt : k < A.length := by omega
    have e : A.take (k + 1) = A.take k ++ [A.getD k []] := by rw [List.take_add_one, List.getD_eq_getElem?_getD, List.getElem?_eq_getElem hlt]; rfl
    rw [e]
    unfold outN
    by_cases hp : (k : Int) = (p : Int)
    · obtain rfl : k = p := by omega
      rw [if_pos rfl, out_before A k hA k (Nat.le_refl _)]
      exact List.perm_append_comm
    · rw [if_neg hp]
      exact (out_perm A p hA k (by omega) (by omega)).append_right _
theorem Rel.gone {F : Fw} {A A' : List (List Int)} {t : List Int} (h : Rel F A) (hp : (A.map tidyL).Perm (t :: A'.map tidyL)) (hA : ∀ a ∈ A', a ∈ A) : Rel (goneW F t) A' := by
  have hq : F.ms.Perm (t :: A'.map tidyL) := h.p.trans hp
  have he : (F.ms.erase t).Perm (A'.map tidyL) := by
    have := hq.erase t
    rw [List.erase_cons_head] at this
    exact this
  have hsub : ∀ d, d ∈ (goneW F t).all → d ∈ F.all := fun d hd => by
    unfold goneW at hd
    dsimp only at hd
    split at hd
    · exact (List.mem_filter.1 hd).1
    · exact hd
  refine ⟨he, fun d => ?_, fun a ha => h.f a (hA a ha), h.v, fun d hd => h.w d (hsub d hd), h.o⟩
  show d ∈ (goneW F t).all ↔ d ∈ F.ms.erase t
  unfold goneW
  dsimp only
  by_cases hcnt : F.ms.count t = 1
  · rw [if_pos hcnt, List.mem_filter, h.a]
    by_cases hd : d = t
    · subst hd
      have : (F.ms.erase d).count d = 0 := by rw [List.count_erase_self]; omega
      have hno : d ∉ F.ms.erase d := List.count_eq_zero.1 this
      exact ⟨fun k => absurd k.2 (by simp), fun k => absurd k hno⟩
    · rw [List.mem_erase_of_ne hd]
      exact ⟨fun k => k.1, fun k => ⟨k, by simp only [Bool.not_eq_true', beq_eq_false_iff_ne]; exact fun e => hd e.symm⟩⟩
  · rw [if_neg hcnt, h.a]
    by_cases hd : d = t
    · subst hd
      have hm : d ∈ F.ms := hq.mem_iff.2 List.mem_cons_self
      have h1 := List.count_pos_iff.2 hm
      have h2 : 0 < (F.ms.erase d).count d := by rw [List.count_erase_self]; omega
      exact ⟨fun _ => List.count_pos_iff.1 h2, fun _ => hm⟩
    · rw [List.mem_erase_of_ne hd]

end Go.Proofs.YtcaoobdbgdldaaaGreatDoor.Rfw
