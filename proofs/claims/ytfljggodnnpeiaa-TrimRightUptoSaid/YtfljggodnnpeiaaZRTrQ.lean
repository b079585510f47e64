/- Part of the proof of TrimRight: what the law uses of the text TrQ. -/
import Derived.Test.YtfljggodnnpeiaaZRTrP
namespace Go.Proofs.Ytfljggodnnpeiaa.Trm
open Go.RowKit Go.Proofs.Ytfljggodnnpeiaa.Lit Go.Proofs.Ytfljggodnnpeiaa.Spr
set_option linter.unusedVariables false

structure KSt where
  given : Nat
  all : List (List Int)
  inn : List Bool
  lean : List (List Int)
structure KFits (all : List (List Int)) : Prop where
  n : all.length ≤ 4194304
  r : ∀ c ∈ all, c.length ≤ 4194304
  f : ∀ c ∈ all, ∀ l ∈ c, fm l = true
structure KOk (K : KSt) : Prop where
  li : K.inn.length = K.all.length
  le : K.lean.length = K.all.length
  gv : K.given < K.all.length
  lr : ∀ c ∈ K.lean, ∀ n ∈ c, 0 ≤ n ∧ n < K.all.length
  ft : KFits K.all

def goodF (all : List (List Int)) (inn : List Bool) : Nat → Nat → List (List Int) → Option (List (List Int))
  | 0, _, lean => some lean
  | k + 1, a, lean => if (folR all inn a).2 = true then goodF all inn k (a + 1) (lean.set a (folR all inn a).1) else none
def markL (need : List Bool) (ns : List Int) : List Bool := ns.foldl (fun nd n => nd.set n.toNat true) need
def needF (lean : List (List Int)) (given : Nat) : Nat → List Bool → List Bool
  | 0, need => need
  | k + 1, need => needF lean given k (if need.getD (given + k) false = true then markL need (lean.getD (given + k) []) else need)
def need0 (n : Nat) : List Bool := (List.replicate n false).set (n - 1) true
def goodR (K : KSt) : Option KSt :=
  (goodF K.all K.inn (K.all.length - K.given) K.given K.lean).map fun lean => { K with lean := lean, inn := needF lean K.given (K.all.length - K.given) (need0 K.all.length) }
def leans (inn : List Bool) (lean : List (List Int)) (x a : Nat) : Bool := inn.getD a false && (lean.getD a []).contains (x : Int)
def newsF (all : List (List Int)) (inn : List Bool) (lean : List (List Int)) (x : Nat) : Nat → Nat → List (Nat × List Int) → Option (List (Nat × List Int))
  | 0, _, news => some news
  | k + 1, a, news => if leans inn lean x a = true then (if (folR all inn a).2 = true then newsF all inn lean x k (a + 1) (news ++ [(a, (folR all inn a).1)]) else none) else newsF all inn lean x k (a + 1) news
def putNews (lean : List (List Int)) (news : List (Nat × List Int)) : List (List Int) := news.foldl (fun l p => l.set p.1 p.2) lean
def withoutR (K : KSt) (x : Nat) : Option KSt :=
  (newsF K.all (K.inn.set x false) K.lean x (K.all.length - max (x + 1) K.given) (max (x + 1) K.given) []).map fun news => { K with inn := K.inn.set x false, lean := putNews K.lean news }
def tryR (K : KSt) (x : Nat) : KSt × Bool :=
  if x ≠ K.all.length - 1 ∧ K.inn.getD x false = true then (match withoutR K x with | some K' => (K', true) | none => (K, false)) else (K, false)
def passF : Nat → KSt → Bool → KSt × Bool
  | 0, K, less => (K, less)
  | k + 1, K, less => passF k (tryR K k).1 (less || (tryR K k).2)
def passR (K : KSt) : KSt × Bool := passF K.all.length K false
def leastF : Nat → KSt → KSt
  | 0, K => K
  | g + 1, K => if (passR K).2 = true then leastF g (passR K).1 else (passR K).1
def trues (inn : List Bool) : Nat := (inn.filter id).length
def leastR (K : KSt) : KSt := leastF (trues K.inn + 1) K
def coreL (K : KSt) (k : Nat) : List Int := ((List.range k).filter fun n => K.inn.getD n false && decide (n < K.given)).map fun (n : Nat) => (n : Int)
def proofL (K : KSt) (k : Nat) : List (List Int) := ((List.range k).filter fun n => K.inn.getD n false && !decide (n < K.given)).map fun n => K.all.getD n []
def startK (cs added : List (List Int)) : KSt := ⟨cs.length, cs ++ added, List.replicate (cs ++ added).length true, List.replicate (cs ++ added).length []⟩
def addsL : List (Bool × List Int) → Option (List (List Int))
  | [] => none
  | s :: t => if s.1 = true then addsL t else if s.2 = [] then some [[]] else (addsL t).map (s.2 :: ·)
def trimG (cs added : List (List Int)) : List Int × List (List Int) × Int :=
  match goodR (startK cs added) with
  | none => ([], [], 120)
  | some K => (coreL (leastR K) (leastR K).all.length, proofL (leastR K) (leastR K).all.length, 0)
def trimR (v : Int) (cs : List (List Int)) (l : List (Bool × List Int)) : List Int × List (List Int) × Int :=
  if (formedB v cs && l.all fun s => s.2.all fm) = true then (match addsL l with | none => ([], [], 120) | some added => trimG cs added) else ([], [], 1)

theorem set_getD {α : Type} (l : List α) (i j : Nat) (x d : α) (h : i < l.length) : (l.set i x).getD j d = if j = i then x else l.getD j d := by
  by_cases e : j = i
  · subst e; rw [if_pos rfl, List.getD_eq_getElem?_getD, List.getElem?_set_self h]; rfl
  · rw [if_neg e, List.getD_eq_getElem?_getD, List.getElem?_set_ne (Ne.symm e), ← List.getD_eq_getElem?_getD]
theorem fol_range {all : List (List Int)} (h : ∀ c ∈ all, ∀ l ∈ c, fm l = true) (inn : List Bool) (a : Nat) (ha : a ≤ all.length) : ∀ n ∈ (folR all inn a).1, 0 ≤ n ∧ n < all.length := by
  intro n hn
  by_cases hf : (folR all inn a).2 = true
  · have := mem_keptN.1 ((fol_lean h inn a hf).1 n hn)
    omega
  · unfold folR at hn hf
    split at hn
    · split at hn
      · simp at hn
      · rename_i h1 h2
        rw [if_pos h1, if_neg h2] at hf
        exact absurd rfl hf
    · simp at hn
theorem mem_set {α : Type} {l : List α} {i : Nat} {x c : α} (h : c ∈ l.set i x) : c ∈ l ∨ c = x := List.mem_or_eq_of_mem_set h
theorem goodF_len (all : List (List Int)) (inn : List Bool) : ∀ (k a : Nat) (lean r : List (List Int)), goodF all inn k a lean = some r → r.length = lean.length
  | 0, _, _, _, h => by cases h; rfl
  | k + 1, a, lean, r, h => by
    unfold goodF at h
    split at h
    · have := goodF_len all inn k (a + 1) _ r h; rwa [List.length_set] at this
    · cases h
theorem goodF_range {all : List (List Int)} (hf : ∀ c ∈ all, ∀ l ∈ c, fm l = true) (inn : List Bool) : ∀ (k a : Nat) (lean r : List (List Int)), a + k ≤ all.length → goodF all inn k a lean = some r → (∀ c ∈ lean, ∀ n ∈ c, 0 ≤ n ∧ n < all.length) → ∀ c ∈ r, ∀ n ∈ c, 0 ≤ n ∧ n < (all.length : Int)
  | 0, _, _, _, _, h, hl => by cases h; exact hl
  | k + 1, a, lean, r, ha, h, hl => by
    unfold goodF at h
    split at h
    · refine goodF_range hf inn k (a + 1) _ r (by omega) h (fun c hc => ?_)
      rcases mem_set hc with hc | rfl
      · exact hl c hc
      · exact fol_range hf inn a (by omega)
    · cases h
theorem mark_len (ns : List Int) : ∀ need : List Bool, (markL need ns).length = need.length := by
  induction ns with
  | nil => exact fun _ => rfl
  | cons n t ih => exact fun need => (ih _).trans (by simp)
theorem need_len (lean : List (List Int)) (given : Nat) : ∀ (k : Nat) (need : List Bool), (needF lean given k need).length = need.length
  | 0, _ => rfl
  | k + 1, need => by
    unfold needF
    rw [need_len]
    split
    · exact mark_len _ _
    · rfl
theorem need0_len (n : Nat) : (need0 n).length = n := by simp [need0]
theorem KOk.good {K K' : KSt} (h : KOk K) (hg : goodR K = some K') : KOk K' ∧ K'.all = K.all ∧ K'.given = K.given := by
  unfold goodR at hg
  cases hr : goodF K.all K.inn (K.all.length - K.given) K.given K.lean with
  | none => rw [hr] at hg; cases hg
  | some lean =>
    rw [hr] at hg
    cases hg
    exact ⟨⟨by show (needF _ _ _ _).length = _; rw [need_len, need0_len], (goodF_len _ _ _ _ _ _ hr).trans h.le, h.gv, goodF_range h.ft.f _ _ _ _ _ (by have := h.gv; omega) hr h.lr, h.ft⟩, rfl, rfl⟩
theorem putNews_len (news : List (Nat × List Int)) : ∀ lean : List (List Int), (putNews lean news).length = lean.length := by
  induction news with
  | nil => exact fun _ => rfl
  | cons p t ih => exact fun lean => (ih _).trans (by simp)
theorem putNews_mem (news : List (Nat × List Int)) : ∀ (lean : List (List Int)) (c : List Int), c ∈ putNews lean news → c ∈ lean ∨ ∃ p ∈ news, p.2 = c := by
  induction news with
  | nil => exact fun lean c h => .inl h
  | cons p t ih =>
    intro lean c h
    rcases ih _ c h with h | ⟨q, hq, e⟩
    · rcases mem_set h with h | rfl
      · exact .inl h
      · exact .inr ⟨p, by simp, rfl⟩
    · exact .inr ⟨q, by simp [hq], e⟩
theorem newsF_all (all : List (List Int)) (inn : List Bool) (lean : List (List Int)) (x : Nat) : ∀ (k a : Nat) (news r : List (Nat × List Int)), newsF all inn lean x k a news = some r → ∃ t, r = news ++ t ∧ t.Pairwise (fun p q => p.1 < q.1) ∧ (∀ p ∈ t, a ≤ p.1 ∧ p.1 < a + k ∧ leans inn lean x p.1 = true ∧ (folR all inn p.1).2 = true ∧ p.2 = (folR all inn p.1).1) ∧ ∀ b, a ≤ b → b < a + k → leans inn lean x b = true → ∃ p ∈ t, p.1 = b
  | 0, a, news, r, h => by cases h; exact ⟨[], by simp, List.Pairwise.nil, by simp, fun b h1 h2 => absurd h1 (by omega)⟩
  | k + 1, a, news, r, h => by
    unfold newsF at h
    by_cases h1 : leans inn lean x a = true
    · rw [if_pos h1] at h
      by_cases h2 : (folR all inn a).2 = true
      · rw [if_pos h2] at h
        obtain ⟨t, e, hp, ht, hb⟩ := newsF_all all inn lean x k (a + 1) _ r h
        refine ⟨(a, (folR all inn a).1) :: t, by rw [e]; simp, List.pairwise_cons.2 ⟨fun p hp => ?_, hp⟩, fun p hp => ?_, fun b h3 h4 h5 => ?_⟩
        · have := ht p hp; show a < p.1; omega
        · rcases List.mem_cons.1 hp with e | hp
          · subst e; exact ⟨Nat.le_refl _, by show a < a + (k + 1); omega, h1, h2, rfl⟩
          · obtain ⟨q1, q2, q3⟩ := ht p hp; exact ⟨by omega, by omega, q3⟩
        · by_cases e : b = a
          · subst e; exact ⟨_, List.mem_cons_self, rfl⟩
          · obtain ⟨p, hp, e2⟩ := hb b (by omega) (by omega) h5; exact ⟨p, by simp [hp], e2⟩
      · rw [if_neg h2] at h; cases h
    · rw [if_neg h1] at h
      obtain ⟨t, e, hp, ht, hb⟩ := newsF_all all inn lean x k (a + 1) _ r h
      refine ⟨t, e, hp, fun p hp => ?_, fun b h3 h4 h5 => ?_⟩
      · obtain ⟨q1, q2, q3⟩ := ht p hp; exact ⟨by omega, by omega, q3⟩
      · by_cases e : b = a
        · subst e; exact absurd h5 h1
        · exact hb b (by omega) (by omega) h5
theorem newsF_none (all : List (List Int)) (inn : List Bool) (lean : List (List Int)) (x : Nat) : ∀ (k a : Nat) (news : List (Nat × List Int)), newsF all inn lean x k a news = none → ∃ b, a ≤ b ∧ b < a + k ∧ leans inn lean x b = true ∧ (folR all inn b).2 = false
  | 0, a, news, h => by cases h
  | k + 1, a, news, h => by
    unfold newsF at h
    by_cases h1 : leans inn lean x a = true
    · rw [if_pos h1] at h
      by_cases h2 : (folR all inn a).2 = true
      · rw [if_pos h2] at h
        obtain ⟨b, g1, g2, g3⟩ := newsF_none all inn lean x k (a + 1) _ h
        exact ⟨b, by omega, by omega, g3⟩
      · exact ⟨a, Nat.le_refl _, by omega, h1, by simpa using h2⟩
    · rw [if_neg h1] at h
      obtain ⟨b, g1, g2, g3⟩ := newsF_none all inn lean x k (a + 1) _ h
      exact ⟨b, by omega, by omega, g3⟩
theorem putNews_getD (news : List (Nat × List Int)) : ∀ (lean : List (List Int)), (∀ p ∈ news, p.1 < lean.length) → news.Pairwise (fun p q => p.1 < q.1) → ∀ b, (∀ p ∈ news, p.1 = b → (putNews lean news).getD b [] = p.2) ∧ ((∀ p ∈ news, p.1 ≠ b) → (putNews lean news).getD b [] = lean.getD b []) := by
  induction news with
  | nil => exact fun lean _ _ b => ⟨by simp, fun _ => rfl⟩
  | cons p t ih =>
    intro lean hl hp b
    obtain ⟨h1, h2⟩ := List.pairwise_cons.1 hp
    obtain ⟨i1, i2⟩ := ih (lean.set p.1 p.2) (fun q hq => by rw [List.length_set]; exact hl q (by simp [hq])) h2 b
    have hpl := hl p (by simp)
    refine ⟨fun q hq e => ?_, fun hn => ?_⟩
    · rcases List.mem_cons.1 hq with e2 | hq
      · subst e2
        show (putNews (lean.set q.1 q.2) t).getD b [] = q.2
        rw [i2 (fun q2 hq2 => by have := h1 q2 hq2; omega), set_getD _ _ _ _ _ hpl, if_pos e.symm]
      · exact i1 q hq e
    · show (putNews (lean.set p.1 p.2) t).getD b [] = _
      rw [i2 (fun q hq => hn q (by simp [hq])), set_getD _ _ _ _ _ hpl, if_neg (fun e => hn p (by simp) e.symm)]
theorem KOk.without {K K' : KSt} {x : Nat} (h : KOk K) (hx : x < K.all.length) (hg : withoutR K x = some K') : KOk K' ∧ K'.all = K.all ∧ K'.given = K.given ∧ K'.inn = K.inn.set x false := by
  unfold withoutR at hg
  cases hr : newsF K.all (K.inn.set x false) K.lean x (K.all.length - max (x + 1) K.given) (max (x + 1) K.given) [] with
  | none => rw [hr] at hg; cases hg
  | some news =>
    rw [hr] at hg
    cases hg
    obtain ⟨t, e, _, ht, _⟩ := newsF_all _ _ _ _ _ _ _ _ hr
    rw [List.nil_append] at e
    subst e
    refine ⟨⟨by show (K.inn.set x false).length = _; rw [List.length_set]; exact h.li, (putNews_len _ _).trans h.le, h.gv, fun c hc => ?_, h.ft⟩, rfl, rfl, rfl⟩
    rcases putNews_mem _ _ c hc with hc | ⟨p, hp, rfl⟩
    · exact h.lr c hc
    · obtain ⟨q1, q2, q3, q4, q5⟩ := ht p hp
      rw [q5]
      exact fol_range h.ft.f _ _ (by have := h.gv; omega)
theorem KOk.try_ {K : KSt} {x : Nat} (h : KOk K) (hx : x < K.all.length) : KOk (tryR K x).1 ∧ (tryR K x).1.all = K.all ∧ (tryR K x).1.given = K.given := by
  unfold tryR
  split
  · cases hw : withoutR K x with
    | some K' => have := h.without hx hw; exact ⟨this.1, this.2.1, this.2.2.1⟩
    | none => exact ⟨h, rfl, rfl⟩
  · exact ⟨h, rfl, rfl⟩
theorem KOk.pass {N : Nat} : ∀ (k : Nat) {K : KSt} (less : Bool), KOk K → K.all.length = N → k ≤ N → KOk (passF k K less).1 ∧ (passF k K less).1.all = K.all ∧ (passF k K less).1.given = K.given
  | 0, K, less, h, _, _ => ⟨h, rfl, rfl⟩
  | k + 1, K, less, h, hN, hk => by
    obtain ⟨h1, h2, h3⟩ := h.try_ (x := k) (by omega)
    obtain ⟨g1, g2, g3⟩ := KOk.pass k (less || (tryR K k).2) h1 (h2 ▸ hN) (by omega)
    exact ⟨g1, g2.trans h2, g3.trans h3⟩
theorem trues_set {inn : List Bool} : ∀ {x : Nat}, inn.getD x false = true → trues inn = trues (inn.set x false) + 1 := by
  induction inn with
  | nil => intro x h; simp at h
  | cons b t ih =>
    intro x h
    cases x with
    | zero =>
      have : b = true := by simpa using h
      subst this
      simp [trues]
    | succ x =>
      have h2 : t.getD x false = true := by simpa using h
      have := ih h2
      unfold trues at this ⊢
      cases b
      · simpa using this
      · simp only [List.set_cons_succ, List.filter_cons, id, if_true, List.length_cons]; omega
theorem tryR_trues {K : KSt} {x : Nat} (h : KOk K) (hx : x < K.all.length) : ((tryR K x).2 = true → trues (tryR K x).1.inn < trues K.inn) ∧ ((tryR K x).2 = false → (tryR K x).1 = K) := by
  unfold tryR
  split
  · rename_i h1
    cases hw : withoutR K x with
    | some K' =>
      refine ⟨fun _ => ?_, fun h => (by cases h)⟩
      show trues K'.inn < _
      rw [(h.without hx hw).2.2.2, trues_set h1.2]; omega
    | none => exact ⟨fun h => (by cases h), fun _ => rfl⟩
  · exact ⟨fun h => (by cases h), fun _ => rfl⟩
theorem pass_trues {N : Nat} : ∀ (k : Nat) {K : KSt} (less : Bool), KOk K → K.all.length = N → k ≤ N → trues (passF k K less).1.inn ≤ trues K.inn ∧ ((passF k K less).2 = true → less = true ∨ trues (passF k K less).1.inn < trues K.inn) ∧ ((passF k K less).2 = false → (passF k K less).1 = K ∧ ∀ x, x < k → (tryR K x).2 = false)
  | 0, K, less, h, _, _ => ⟨Nat.le_refl _, fun h => .inl h, fun _ => ⟨rfl, fun x hx => absurd hx (by omega)⟩⟩
  | k + 1, K, less, h, hN, hk => by
    obtain ⟨h1, h2, h3⟩ := h.try_ (x := k) (by omega)
    obtain ⟨t1, t2⟩ := tryR_trues h (x := k) (by omega)
    obtain ⟨g1, g2, g3⟩ := pass_trues k (less || (tryR K k).2) h1 (h2 ▸ hN) (by omega)
    unfold passF
    cases ht : (tryR K k).2 with
    | true =>
      have := t1 ht
      rw [ht] at g1 g2 g3
      refine ⟨by omega, fun hp => .inr (by omega), fun hp => ?_⟩
      exfalso
      obtain ⟨_, _⟩ := g3 hp
      have hl : ∀ (j : Nat) (M : KSt), (passF j M true).2 = true := by
        intro j
        induction j with
        | zero => exact fun _ => rfl
        | succ j ih => exact fun M => by unfold passF; rw [Bool.true_or]; exact ih _
      rw [Bool.or_true, hl] at hp
      cases hp
    | false =>
      have e := t2 ht
      rw [ht, e] at g1 g2 g3
      rw [Bool.or_false] at g1 g2 g3
      rw [e, Bool.or_false]
      refine ⟨g1, g2, fun hp => ?_⟩
      obtain ⟨q1, q2⟩ := g3 hp
      refine ⟨q1, fun x hx => ?_⟩
      by_cases ex : x = k
      · rw [ex]; exact ht
      · exact q2 x (by omega)
theorem least_step {K : KSt} {g : Nat} (h : KOk K) : (passR K).2 = true → KOk (passR K).1 ∧ (passR K).1.all = K.all ∧ (passR K).1.given = K.given ∧ trues (passR K).1.inn < trues K.inn := fun hp => by
  obtain ⟨a1, a2, a3⟩ := KOk.pass K.all.length false h rfl (Nat.le_refl _)
  obtain ⟨b1, b2, b3⟩ := pass_trues K.all.length false h rfl (Nat.le_refl _)
  exact ⟨a1, a2, a3, (b2 hp).resolve_left (by decide)⟩
theorem least_end {K : KSt} (h : KOk K) (hp : (passR K).2 = false) : (passR K).1 = K ∧ ∀ x, x < K.all.length → (tryR K x).2 = false :=
  (pass_trues K.all.length false h rfl (Nat.le_refl _)).2.2 hp
theorem leastF_ok : ∀ (g : Nat) {K : KSt}, KOk K → trues K.inn < g → KOk (leastF g K) ∧ (leastF g K).all = K.all ∧ (leastF g K).given = K.given ∧ (passR (leastF g K)).2 = false
  | 0, K, h, hg => absurd hg (by omega)
  | g + 1, K, h, hg => by
    unfold leastF
    cases hp : (passR K).2 with
    | true =>
      rw [if_pos rfl]
      obtain ⟨a1, a2, a3, a4⟩ := least_step (g := g) h hp
      obtain ⟨b1, b2, b3, b4⟩ := leastF_ok g a1 (by omega)
      exact ⟨b1, b2.trans a2, b3.trans a3, b4⟩
    | false =>
      rw [if_neg (by decide), (least_end h hp).1]
      exact ⟨h, rfl, rfl, hp⟩
theorem leastR_ok {K : KSt} (h : KOk K) : KOk (leastR K) ∧ (leastR K).all = K.all ∧ (leastR K).given = K.given ∧ (passR (leastR K)).2 = false := leastF_ok _ h (by omega)
theorem startK_ok {cs added : List (List Int)} (h : 0 < added.length) (ft : KFits (cs ++ added)) : KOk (startK cs added) :=
  ⟨by simp [startK], by simp [startK], by simp [startK]; omega, fun c hc => by unfold startK at hc; dsimp only at hc; rw [List.eq_of_mem_replicate hc]; simp, ft⟩

end Go.Proofs.Ytfljggodnnpeiaa.Trm
