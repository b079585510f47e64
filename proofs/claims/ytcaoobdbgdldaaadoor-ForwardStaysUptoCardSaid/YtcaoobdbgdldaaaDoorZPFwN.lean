/- Part of the proof of ForwardStays: what the law uses of the text FwN. -/
import Derived.Test.YtcaoobdbgdldaaaDoorZPFwM
namespace Go.Proofs.YtcaoobdbgdldaaaDoor.Fwd
open Go.RowKit Go.Proofs.YtcaoobdbgdldaaaDoor.Lit Go.Proofs.YtcaoobdbgdldaaaDoor.Spr
set_option linter.unusedVariables false
set_option linter.unusedSimpArgs false

theorem within_mono {c : List Int} {v v' : Int} (h : withinB c v = true) (hv : v ≤ v') : withinB c v' = true := by
  unfold withinB at h ⊢
  rw [Bool.and_eq_true] at h ⊢
  exact ⟨h.1, List.all_eq_true.2 fun x hx => decide_eq_true (by have := of_decide_eq_true (List.all_eq_true.1 h.2 x hx); omega)⟩
theorem reach_le (t : List Int) : ∀ (v : Int), v ≤ reachV v t ∧ (∀ x ∈ t, lv x ≤ reachV v t) ∧ (v ≤ 1048576 → reachV v t ≤ 1048576) := by
  induction t with
  | nil => intro v; exact ⟨Int.le_refl _, by simp, fun h => h⟩
  | cons x t ih =>
    intro v
    obtain ⟨h1, h2, h3⟩ := ih (max v (lv x))
    have hb := lv_bd x
    have e : reachV v (x :: t) = reachV (max v (lv x)) t := rfl
    rw [e]
    refine ⟨by omega, fun y hy => ?_, fun h => h3 (by omega)⟩
    rcases List.mem_cons.1 hy with rfl | hy
    · omega
    · exact h2 y hy
def Shaped (F : Fw) : Prop := formedB F.vars F.all = true
theorem Shaped.put {F : Fw} (h : Shaped F) (c : List Int) : Shaped (putW F c) := by
  unfold Shaped formedB at h ⊢
  simp only [Bool.and_eq_true, decide_eq_true_eq] at h ⊢
  obtain ⟨⟨h0, h1⟩, h2⟩ := h
  obtain ⟨r1, r2, r3⟩ := reach_le (tidyL c) F.vars
  have hv : (putW F c).vars = reachV F.vars (tidyL c) := rfl
  rw [hv]
  refine ⟨⟨by omega, r3 h1⟩, List.all_eq_true.2 fun d hd => ?_⟩
  rcases put_all F c d hd with e | e
  · exact within_mono (List.all_eq_true.1 h2 d e) r1
  · subst e
    unfold withinB
    rw [Bool.and_eq_true]
    exact ⟨List.all_eq_true.2 (tidy_fm c), List.all_eq_true.2 fun x hx => decide_eq_true (r2 x hx)⟩
theorem Shaped.new (cs : List (List Int)) : Shaped (newW cs) := by
  unfold newW
  have : ∀ (cs : List (List Int)) (F : Fw), Shaped F → Shaped (cs.foldl putW F) := by
    intro cs
    induction cs with
    | nil => exact fun F h => h
    | cons c t ih => exact fun F h => ih _ (h.put c)
  exact this cs _ rfl
theorem Shaped.fm {F : Fw} (h : Shaped F) : ∀ d ∈ F.all, ∀ x ∈ d, fm x = true := by
  unfold Shaped formedB at h
  rw [Bool.and_eq_true] at h
  intro d hd x hx
  have := List.all_eq_true.1 h.2 d hd
  unfold withinB at this
  rw [Bool.and_eq_true] at this
  exact List.all_eq_true.1 this.1 x hx
theorem clash_follows {v : Int} {cs : List (List Int)} {c : List Int} (h1 : formedB v cs = true) (hcs : ∀ d ∈ cs, ∀ x ∈ d, fm x = true) (hc : ∀ x ∈ c, fm x = true) (h : Clash cs (negL c)) : followsR v cs c = true := by
  have hn : ∀ x ∈ negL c, fm x = true := fun x hx => by
    have := fm_neg (hc _ (m_negL.1 hx))
    rwa [Int.neg_neg] at this
  unfold followsR closeR
  have ha : askedI v cs (negL c) = 0 := by unfold askedI; rw [h1, List.all_eq_true.2 hn]; rfl
  rw [if_pos ha]
  by_cases hy : (closedSt cs (negL c)).2 = true
  · exact absurd h ((closed_up cs (negL c) hn hcs).1 hy).2.2.2.2
  · rw [if_neg hy]

structure Rel (F G : Fw) : Prop where
  fmF : ∀ d ∈ F.all, ∀ x ∈ d, fm x = true
  sub : ∀ d ∈ F.all, d ∈ G.all
  sh : Shaped G
  am : AM G
  dn : G.done = false
theorem Rel.drop {F G : Fw} (h : Rel F G) (c : List Int) : Rel (dropW F c).2.2 G := by
  have hsub : ∀ d ∈ (dropW F c).2.2.all, d ∈ F.all := by
    intro d hd
    unfold dropW at hd
    split at hd
    · split at hd
      · exact hd
      · split at hd
        · exact hd
        · unfold goneW at hd
          dsimp only at hd
          split at hd
          · exact (List.mem_filter.1 hd).1
          · exact hd
    · exact hd
  exact ⟨fun d hd => h.fmF d (hsub d hd), fun d hd => h.sub d (hsub d hd), h.sh, h.am, h.dn⟩
theorem add_rup {F : Fw} {c : List Int} (h1 : (addW F c).1 = 1) : (∀ x ∈ c, fm x = true) ∧ followsR F.vars F.all c = true ∧ (addW F c).2.1 = 0 ∧ (addW F c).2.2 = { putW F c with done := decide (c.length = 0) } := by
  unfold addW at h1 ⊢
  by_cases hr : refusesR F c = 0
  · rw [if_pos hr] at h1 ⊢
    have hc : ∀ x ∈ c, fm x = true := by
      unfold refusesR at hr
      split at hr
      · rename_i h; exact List.all_eq_true.1 h
      · cases hr
    by_cases hk : (kindF F.vars F.all c).1 = 0
    · rw [if_pos hk] at h1; exact absurd h1 (by simp)
    · rw [if_neg hk] at h1 ⊢
      refine ⟨hc, ?_, rfl, rfl⟩
      have h2 : (kindF F.vars F.all c).1 = 1 := h1
      unfold kindF kindR at h2
      split at h2
      · split at h2
        · assumption
        · split at h2 <;> simp at h2
      · simp at h2
  · rw [if_neg hr] at h1; exact absurd h1 (by simp)
theorem Rel.add {F G : Fw} (h : Rel F G) {c : List Int} (h1 : (addW F c).1 = 1) : addW G c = (1, 0, { putW G c with done := decide (c.length = 0) }) ∧ (c ≠ [] → Rel (addW F c).2.2 (addW G c).2.2) := by
  obtain ⟨hc, hf, _, hF⟩ := add_rup h1
  have hcl := follows_clash hf h.fmF hc
  have hcl2 : Clash G.all (negL c) := hcl.mono (fun d hd => ⟨d, h.sub d hd, fun _ => Iff.rfl⟩) (fun _ hx => hx)
  have hfG := clash_follows h.sh h.sh.fm hc hcl2
  have hG : addW G c = (1, 0, { putW G c with done := decide (c.length = 0) }) := by
    have hr : refusesR G c = 0 := by unfold refusesR; rw [if_pos (List.all_eq_true.2 hc), h.dn, if_neg (by decide)]
    have hk : kindF G.vars G.all c = (1, 0) := by
      unfold kindF kindR
      rw [show (formedB G.vars G.all && c.all fm) = true from by rw [Bool.and_eq_true]; exact ⟨h.sh, List.all_eq_true.2 hc⟩]
      simp [hfG]
    unfold addW
    rw [if_pos hr, hk, if_neg (by decide)]
  refine ⟨hG, fun hne => ?_⟩
  rw [hF, hG]
  have hd : decide (c.length = 0) = false := decide_eq_false (fun e => hne (List.length_eq_zero_iff.1 e))
  rw [hd]
  refine ⟨fun d hd x hx => ?_, fun d hd => ?_, (h.sh.put c : Shaped (putW G c)), (h.am.put c : AM (putW G c)), rfl⟩
  · rcases put_all F c d hd with e | e
    · exact h.fmF d e x hx
    · subst e; exact tidy_fm c x hx
  · have ht : tidyL c ∈ (putW G c).all := (h.am.put c) _ (by unfold putW; exact List.mem_append_right _ (List.mem_singleton_self _))
    have hk : ∀ d ∈ G.all, d ∈ (putW G c).all := fun d hd => by
      unfold putW
      dsimp only
      split
      · exact List.mem_append_left _ hd
      · exact hd
    rcases put_all F c d hd with e | e
    · exact hk d (h.sub d e)
    · subst e; exact ht
theorem stay_steps : ∀ (l : List (Bool × List Int)) (F G : Fw), Rel F G → ∀ k, k < l.length →
    (∀ j, j < k → (takeW (runW F (l.take j)) (l.getD j (false, [])).1 (l.getD j (false, [])).2).1 = 0) → (takeW (runW F (l.take k)) (l.getD k (false, [])).1 (l.getD k (false, [])).2).1 = 1 →
    (∀ j, j ≤ k → (l.getD j (false, [])).1 = false → (addW (runW F (l.take j)) (l.getD j (false, [])).2).1 = 1) →
    ∀ i : Nat, stepsW G i ((l.take (k + 1)).filter fun s => !s.1) = (1, ((i + ((l.take (k + 1)).filter fun s => !s.1).length : Nat) : Int) - 1) := by
  intro l
  induction l with
  | nil => intro F G _ k hk; simp at hk
  | cons s t ih =>
    intro F G hR k hk hz h1 ha i
    obtain ⟨d, c⟩ := s
    cases k with
    | zero =>
      simp only [List.take_zero, List.getD_cons_zero] at h1
      rw [show runW F [] = F from rfl] at h1
      cases d with
      | true =>
        unfold takeW at h1
        simp only [↓reduceIte] at h1
        split at h1
        · simp at h1
        · split at h1 <;> simp at h1
      | false =>
        have h2 := ha 0 (Nat.le_refl _) rfl
        simp only [List.take_zero, List.getD_cons_zero] at h2
        rw [show runW F [] = F from rfl] at h2
        obtain ⟨hG, _⟩ := hR.add h2
        obtain ⟨_, _, h3, h4⟩ := add_rup h2
        have hc0 : c.length = 0 := by
          unfold takeW at h1
          simp only [Bool.false_eq_true, ↓reduceIte] at h1
          rw [if_neg (by rw [h3]; simp), if_neg (by rw [h2]; simp), h4] at h1
          by_cases h5 : c.length = 0
          · exact h5
          · simp [h5] at h1
        have hT : (takeW G false c).1 = 1 := by
          unfold takeW
          simp [hG, hc0]
        have e : (((false, c) :: t).take (0 + 1)).filter (fun s : Bool × List Int => !s.1) = [(false, c)] := by simp
        rw [e]
        unfold stepsW
        rw [if_pos (by rw [hT]; decide), hT]
        simp
    | succ k =>
      have h0 := hz 0 (by omega)
      simp only [List.take_zero, List.getD_cons_zero] at h0
      rw [show runW F [] = F from rfl] at h0
      have hz' : ∀ j, j < k → (takeW (runW (takeW F d c).2 (t.take j)) (t.getD j (false, [])).1 (t.getD j (false, [])).2).1 = 0 := fun j hj => by simpa [runW_cons] using hz (j + 1) (by omega)
      have h1' : (takeW (runW (takeW F d c).2 (t.take k)) (t.getD k (false, [])).1 (t.getD k (false, [])).2).1 = 1 := by simpa [runW_cons] using h1
      have ha' : ∀ j, j ≤ k → (t.getD j (false, [])).1 = false → (addW (runW (takeW F d c).2 (t.take j)) (t.getD j (false, [])).2).1 = 1 := fun j hj hd => by
        have := ha (j + 1) (by omega) (by simpa using hd)
        simpa [runW_cons] using this
      have hk' : k < t.length := by simpa using hk
      rw [List.take_succ_cons]
      cases d with
      | true =>
        rw [List.filter_cons_of_neg (by simp)]
        refine ih _ G ?_ k hk' hz' h1' ha' i
        rw [takeW_eq, if_pos rfl]
        exact hR.drop c
      | false =>
        have h2 := ha 0 (by omega) rfl
        simp only [List.take_zero, List.getD_cons_zero] at h2
        rw [show runW F [] = F from rfl] at h2
        obtain ⟨hG, hRel⟩ := hR.add h2
        obtain ⟨_, _, h3, h4⟩ := add_rup h2
        have hc0 : c ≠ [] := by
          rintro rfl
          unfold takeW at h0
          simp only [Bool.false_eq_true, ↓reduceIte] at h0
          rw [if_neg (by rw [h3]; simp), if_neg (by rw [h2]; simp), h4] at h0
          simp at h0
        have hcl : c.length ≠ 0 := fun e => hc0 (List.length_eq_zero_iff.1 e)
        have hT : (takeW G false c).1 = 0 := by
          unfold takeW
          simp [hG, hcl]
        rw [List.filter_cons_of_pos (by simp)]
        unfold stepsW
        rw [if_neg (by rw [hT]; decide), takeW_eq, if_neg (by decide)]
        have hrec := ih (takeW F false c).2 (addW G c).2.2 (by rw [takeW_eq, if_neg (by decide)]; exact hRel hc0) k hk' hz' h1' ha' (i + 1)
        rw [hrec, List.length_cons]
        congr 1
        omega

end Go.Proofs.YtcaoobdbgdldaaaDoor.Fwd
