/- Part of the proof of TrimRight: what the law uses of the text TrR. -/
import Derived.Test.YtfljggodnnpeiaaZRTrQ
namespace Go.Proofs.Ytfljggodnnpeiaa.Trm
open Go.RowKit Go.Proofs.Ytfljggodnnpeiaa.Lit Go.Proofs.Ytfljggodnnpeiaa.Spr
set_option linter.unusedVariables false

theorem goodF_get (all : List (List Int)) (inn : List Bool) : ∀ (k a : Nat) (lean r : List (List Int)), a + k ≤ lean.length → goodF all inn k a lean = some r → (∀ b, a ≤ b → b < a + k → (folR all inn b).2 = true ∧ r.getD b [] = (folR all inn b).1) ∧ ∀ b, b < a → r.getD b [] = lean.getD b []
  | 0, a, lean, r, _, h => by
    cases h
    exact ⟨fun b h1 h2 => absurd h1 (by omega), fun _ _ => rfl⟩
  | k + 1, a, lean, r, hl, h => by
    unfold goodF at h
    split at h
    · rename_i h1
      obtain ⟨g1, g2⟩ := goodF_get all inn k (a + 1) _ r (by rw [List.length_set]; omega) h
      refine ⟨fun b hb1 hb2 => ?_, fun b hb => ?_⟩
      · by_cases e : b = a
        · subst e
          refine ⟨h1, ?_⟩
          rw [g2 b (by omega), set_getD _ _ _ _ _ (by omega), if_pos rfl]
        · exact g1 b (by omega) (by omega)
      · rw [g2 b (by omega), set_getD _ _ _ _ _ (by omega), if_neg (by omega)]
    · cases h
theorem goodF_none (all : List (List Int)) (inn : List Bool) : ∀ (k a : Nat) (lean : List (List Int)), goodF all inn k a lean = none → ∃ b, a ≤ b ∧ b < a + k ∧ (folR all inn b).2 = false
  | 0, a, lean, h => by cases h
  | k + 1, a, lean, h => by
    unfold goodF at h
    split at h
    · obtain ⟨b, h1, h2, h3⟩ := goodF_none all inn k (a + 1) _ h
      exact ⟨b, by omega, by omega, h3⟩
    · rename_i h1
      exact ⟨a, Nat.le_refl _, by omega, by simpa using h1⟩
theorem mark_get (ns : List Int) : ∀ (need : List Bool) (i : Nat), (markL need ns).getD i false = true ↔ need.getD i false = true ∨ (i < need.length ∧ ∃ n ∈ ns, n.toNat = i) := by
  induction ns with
  | nil => exact fun need i => ⟨fun h => .inl h, fun h => h.elim id (fun ⟨_, n, hn, _⟩ => absurd hn (by simp))⟩
  | cons n t ih =>
    intro need i
    show (markL (need.set n.toNat true) t).getD i false = true ↔ _
    rw [ih, List.length_set]
    constructor
    · rintro (h | ⟨h1, m, hm, e⟩)
      · by_cases hi : n.toNat = i
        · by_cases hl : i < need.length
          · exact .inr ⟨hl, n, by simp, hi⟩
          · rw [List.getD_eq_getElem?_getD, List.getElem?_eq_none (by simp; omega)] at h; simp at h
        · rw [List.getD_eq_getElem?_getD, List.getElem?_set_ne hi, ← List.getD_eq_getElem?_getD] at h
          exact .inl h
      · exact .inr ⟨h1, m, by simp [hm], e⟩
    · rintro (h | ⟨h1, m, hm, e⟩)
      · by_cases hi : n.toNat = i
        · by_cases hl : i < need.length
          · left
            rw [set_getD _ _ _ _ _ (by omega), if_pos hi.symm]
          · rw [List.getD_eq_getElem?_getD, List.getElem?_eq_none (by omega)] at h; simp at h
        · left
          rw [List.getD_eq_getElem?_getD, List.getElem?_set_ne hi, ← List.getD_eq_getElem?_getD]; exact h
      · rcases List.mem_cons.1 hm with rfl | hm
        · left
          rw [set_getD _ _ _ _ _ (by omega), if_pos e.symm]
        · exact .inr ⟨h1, m, hm, e⟩
theorem need_closed (lean : List (List Int)) (given : Nat) : ∀ (k : Nat) (need : List Bool), given + k ≤ need.length → (∀ a, given ≤ a → a < given + k → ∀ n ∈ lean.getD a [], n.toNat < a) →
    (∀ i, need.getD i false = true → (needF lean given k need).getD i false = true) ∧ (∀ i, given + k ≤ i → (needF lean given k need).getD i false = need.getD i false) ∧ ∀ a, given ≤ a → a < given + k → (needF lean given k need).getD a false = true → ∀ n ∈ lean.getD a [], (needF lean given k need).getD n.toNat false = true
  | 0, need, _, _ => ⟨fun i h => h, fun _ _ => rfl, fun a h1 h2 => absurd h1 (by omega)⟩
  | k + 1, need, hl, hn => by
    unfold needF
    obtain ⟨n', hn'⟩ : ∃ n', (if need.getD (given + k) false = true then markL need (lean.getD (given + k) []) else need) = n' := ⟨_, rfl⟩
    rw [hn']
    have hlen : n'.length = need.length := by rw [← hn']; split <;> first | rfl | exact mark_len _ _
    have up : ∀ i, need.getD i false = true → n'.getD i false = true := fun i h => by
      rw [← hn']; split
      · exact (mark_get _ _ _).2 (.inl h)
      · exact h
    have same : ∀ i, given + k ≤ i → n'.getD i false = need.getD i false := fun i hi => by
      rw [← hn']; split
      · rw [Bool.eq_iff_iff, mark_get]
        refine ⟨fun h => h.elim id (fun ⟨_, n, hm, e⟩ => ?_), .inl⟩
        have := hn (given + k) (by omega) (by omega) n hm
        omega
      · rfl
    obtain ⟨i1, i2, i3⟩ := need_closed lean given k n' (by omega) (fun a h1 h2 => hn a h1 (by omega))
    refine ⟨fun i h => i1 i (up i h), fun i hi => (i2 i (by omega)).trans (same i (by omega)), fun a h1 h2 h3 n hm => ?_⟩
    by_cases e : a = given + k
    · subst e
      have h4 : need.getD (given + k) false = true := (same _ (Nat.le_refl _)).symm.trans ((i2 _ (Nat.le_refl _)).symm.trans h3)
      refine i1 _ ?_
      rw [← hn', if_pos h4, mark_get]
      have := hn (given + k) h1 (by omega) n hm
      exact .inr ⟨by omega, n, hm, rfl⟩
    · exact i3 a h1 (by omega) h3 n hm

structure Sup (K : KSt) : Prop where
  last : K.inn.getD (K.all.length - 1) false = true
  lean : ∀ a, K.given ≤ a → a < K.all.length → K.inn.getD a false = true → (∀ n ∈ K.lean.getD a [], n ∈ keptN K.inn a) ∧ Clash ((K.lean.getD a []).map fun n => K.all.getD n.toNat []) (opps (K.all.getD a []))
theorem Sup.clash {K : KSt} (h : Sup K) {a : Nat} (h1 : K.given ≤ a) (h2 : a < K.all.length) (h3 : K.inn.getD a false = true) : Clash (keptC K.all K.inn a) (opps (K.all.getD a [])) := by
  obtain ⟨g1, g2⟩ := h.lean a h1 h2 h3
  refine g2.mono (fun c hc => ?_) (fun _ hl => hl)
  obtain ⟨n, hn, rfl⟩ := List.mem_map.1 hc
  exact ⟨_, List.mem_map.2 ⟨n, g1 n hn, rfl⟩, fun _ => Iff.rfl⟩
theorem good_sup {K K' : KSt} (h : KOk K) (hg : goodR K = some K') : Sup K' := by
  unfold goodR at hg
  cases hr : goodF K.all K.inn (K.all.length - K.given) K.given K.lean with
  | none => rw [hr] at hg; cases hg
  | some lean =>
    rw [hr] at hg
    cases hg
    have gv := h.gv
    have le := h.le
    obtain ⟨g1, _⟩ := goodF_get K.all K.inn _ _ _ _ (by omega) hr
    have hk : ∀ a, K.given ≤ a → a < K.given + (K.all.length - K.given) → ∀ n ∈ lean.getD a [], n.toNat < a := fun a h1 h2 n hn => by
      obtain ⟨f1, f2⟩ := g1 a h1 h2
      rw [f2] at hn
      exact (mem_keptN.1 ((fol_lean h.ft.f K.inn a f1).1 n hn)).2.1
    obtain ⟨n1, n2, n3⟩ := need_closed lean K.given (K.all.length - K.given) (need0 K.all.length) (by rw [need0_len]; omega) hk
    refine ⟨n1 _ ?_, fun a h1 h2 h3 => ?_⟩
    · show (need0 K.all.length).getD (K.all.length - 1) false = true
      unfold need0
      rw [set_getD _ _ _ _ _ (by simp; omega), if_pos rfl]
    · obtain ⟨f1, f2⟩ := g1 a h1 (by show a < _; have : a < K.all.length := h2; omega)
      obtain ⟨l1, l2⟩ := fol_lean h.ft.f K.inn a f1
      show (∀ n ∈ lean.getD a [], _) ∧ Clash ((lean.getD a []).map _) _
      refine ⟨fun n hn => ?_, by rw [f2]; exact l2⟩
      have hn2 := hn
      rw [f2] at hn2
      obtain ⟨m1, m2, _⟩ := mem_keptN.1 (l1 n hn2)
      exact mem_keptN.2 ⟨m1, m2, n3 a h1 (by have : a < K.all.length := h2; omega) h3 n hn⟩
theorem Sup.without {K K' : KSt} {x : Nat} (hs : Sup K) (h : KOk K) (hx : x < K.all.length) (hxl : x ≠ K.all.length - 1) (hg : withoutR K x = some K') : Sup K' := by
  unfold withoutR at hg
  cases hr : newsF K.all (K.inn.set x false) K.lean x (K.all.length - max (x + 1) K.given) (max (x + 1) K.given) [] with
  | none => rw [hr] at hg; cases hg
  | some news =>
    rw [hr] at hg
    cases hg
    obtain ⟨t, e, hp, ht, hb⟩ := newsF_all _ _ _ _ _ _ _ _ hr
    rw [List.nil_append] at e
    subst e
    have gv := h.gv
    have li := h.li
    have le := h.le
    have kept : ∀ i, (K.inn.set x false).getD i false = true ↔ i ≠ x ∧ K.inn.getD i false = true := fun i => by
      rw [set_getD _ _ _ _ _ (by omega)]
      by_cases e : i = x
      · rw [if_pos e]; exact ⟨fun h => (by cases h), fun h => absurd e h.1⟩
      · rw [if_neg e]; exact ⟨fun h => ⟨e, h⟩, fun h => h.2⟩
    refine ⟨(kept _).2 ⟨fun e => hxl e.symm, hs.last⟩, fun a h1 h2 h3 => ?_⟩
    change K.given ≤ a at h1
    change a < K.all.length at h2
    change (K.inn.set x false).getD a false = true at h3
    show (∀ n ∈ (putNews K.lean news).getD a [], n ∈ keptN (K.inn.set x false) a) ∧ Clash (((putNews K.lean news).getD a []).map fun n => K.all.getD n.toNat []) (opps (K.all.getD a []))
    obtain ⟨p1, p2⟩ := putNews_getD news K.lean (fun p hp => by have := ht p hp; omega) hp a
    by_cases hin : ∃ p ∈ news, p.1 = a
    · obtain ⟨p, hpn, e⟩ := hin
      obtain ⟨q1, q2, q3, q4, q5⟩ := ht p hpn
      rw [p1 p hpn e, q5, e]
      rw [e] at q4
      exact fol_lean h.ft.f _ a q4
    · rw [p2 (fun p hpn e => hin ⟨p, hpn, e⟩)]
      obtain ⟨k1, k2⟩ := hs.lean a h1 h2 ((kept a).1 h3).2
      refine ⟨fun n hn => ?_, k2⟩
      obtain ⟨m1, m2, m3⟩ := mem_keptN.1 (k1 n hn)
      refine mem_keptN.2 ⟨m1, m2, (kept _).2 ⟨fun ex => hin ?_, m3⟩⟩
      obtain ⟨p, hpn, e⟩ := hb a (by omega) (by omega) (by
        unfold leans
        rw [h3, Bool.true_and, List.contains_iff_mem]
        have : n = (x : Int) := by omega
        rw [← this]; exact hn)
      exact ⟨p, hpn, by rw [e]⟩
theorem Sup.try_ {K : KSt} {x : Nat} (hs : Sup K) (h : KOk K) (hx : x < K.all.length) : Sup (tryR K x).1 := by
  unfold tryR
  split
  · rename_i h1
    cases hw : withoutR K x with
    | some K' => exact hs.without h hx h1.1 hw
    | none => exact hs
  · exact hs
theorem Sup.pass {N : Nat} : ∀ (k : Nat) {K : KSt} (less : Bool), Sup K → KOk K → K.all.length = N → k ≤ N → Sup (passF k K less).1
  | 0, K, less, hs, h, _, _ => hs
  | k + 1, K, less, hs, h, hN, hk => by
    obtain ⟨h1, h2, h3⟩ := h.try_ (x := k) (by omega)
    exact Sup.pass k (less || (tryR K k).2) (hs.try_ h (by omega)) h1 (h2 ▸ hN) (by omega)
theorem leastF_sup : ∀ (g : Nat) {K : KSt}, Sup K → KOk K → Sup (leastF g K)
  | 0, K, hs, h => hs
  | g + 1, K, hs, h => by
    unfold leastF
    have hs2 := Sup.pass K.all.length false hs h rfl (Nat.le_refl _)
    split
    · exact leastF_sup g hs2 (KOk.pass K.all.length false h rfl (Nat.le_refl _)).1
    · exact hs2
theorem least_sup {K : KSt} (hs : Sup K) (h : KOk K) : Sup (leastR K) := leastF_sup _ hs h
theorem no_spare {K : KSt} (h : KOk K) (hp : (passR K).2 = false) {x : Nat} (hx : x < K.all.length) (hxl : x ≠ K.all.length - 1) (hk : K.inn.getD x false = true) :
    ∃ a, x < a ∧ K.given ≤ a ∧ a < K.all.length ∧ K.inn.getD a false = true ∧ ¬ Clash (keptC K.all (K.inn.set x false) a) (opps (K.all.getD a [])) := by
  have ht := (least_end h hp).2 x hx
  have gv := h.gv
  unfold tryR at ht
  rw [if_pos ⟨hxl, hk⟩] at ht
  cases hw : withoutR K x with
  | some K' => rw [hw] at ht; cases ht
  | none =>
    unfold withoutR at hw
    cases hr : newsF K.all (K.inn.set x false) K.lean x (K.all.length - max (x + 1) K.given) (max (x + 1) K.given) [] with
    | some news => rw [hr] at hw; cases hw
    | none =>
      obtain ⟨b, b1, b2, b3, b4⟩ := newsF_none _ _ _ _ _ _ _ hr
      refine ⟨b, by omega, by omega, by omega, ?_, fun hc => ?_⟩
      · unfold leans at b3
        have h3 : (K.inn.set x false).getD b false = true := (Bool.and_eq_true _ _ ▸ b3).1
        rw [set_getD _ _ _ _ _ (by rw [h.li]; omega), if_neg (by omega)] at h3
        exact h3
      · rw [(fol_clash h.ft.f _ b).2 hc] at b4; cases b4
theorem good_iff {K : KSt} (h : KOk K) : (goodR K).isSome = true ↔ ∀ a, K.given ≤ a → a < K.all.length → Clash (keptC K.all K.inn a) (opps (K.all.getD a [])) := by
  have gv := h.gv
  have le := h.le
  unfold goodR
  cases hr : goodF K.all K.inn (K.all.length - K.given) K.given K.lean with
  | none =>
    refine ⟨fun h => (by cases h), fun hc => ?_⟩
    obtain ⟨b, b1, b2, b3⟩ := goodF_none _ _ _ _ _ hr
    rw [(fol_clash h.ft.f _ b).2 (hc b b1 (by omega))] at b3; cases b3
  | some lean =>
    obtain ⟨g1, _⟩ := goodF_get K.all K.inn _ _ _ _ (by omega) hr
    exact ⟨fun _ a h1 h2 => (fol_clash h.ft.f _ a).1 (g1 a h1 (by omega)).1, fun _ => rfl⟩
end Go.Proofs.Ytfljggodnnpeiaa.Trm
