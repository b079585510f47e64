/- Part of the proof of RupOrder: what the law uses of the text RupN. -/
import Derived.Test.YthbccfgcemdgeabZoRupM
namespace Go.Proofs.Ythbccfgcemdgeab.Rf
open Go.RowKit Go.Proofs.Ythbccfgcemdgeab.Lit Go.Proofs.Ythbccfgcemdgeab.Spr
set_option linter.unusedVariables false
set_option linter.unusedSimpArgs false

theorem tidy_ext {a b : List Int} (h : ∀ x, x ∈ a ↔ x ∈ b) : tidyL a = tidyL b := rising_ext _ _ (tidy_rising a) (tidy_rising b) fun y => by rw [mem_tidy, mem_tidy, h y]
theorem without_ext {a b : List Int} (h : ∀ x, x ∈ a ↔ x ∈ b) (l : Int) : withoutL a l = withoutL b l := by unfold withoutL; rw [tidy_ext h]
theorem join_ext {a b c d : List Int} (h : ∀ x, x ∈ a ↔ x ∈ b) (g : ∀ x, x ∈ c ↔ x ∈ d) : joinL a c = joinL b d := by unfold joinL; exact tidy_ext fun x => by rw [List.mem_append, List.mem_append, h x, g x]
theorem hasB_ext {a b : List Int} (h : ∀ x, x ∈ a ↔ x ∈ b) (l : Int) : hasB a l = hasB b l := by rw [Bool.eq_iff_iff, mem_hasB, mem_hasB, h l]
theorem partB_ext {a b : List Int} (h : ∀ x, x ∈ a ↔ x ∈ b) (l : Int) (R : List Int → Bool) : partB l R a = partB l R b := by unfold partB; rw [hasB_ext h, without_ext h]
def SC (cs ds : List (List Int)) : Prop := (∀ c ∈ cs, ∃ d ∈ ds, ∀ x, x ∈ c ↔ x ∈ d) ∧ (∀ d ∈ ds, ∃ c ∈ cs, ∀ x, x ∈ d ↔ x ∈ c)
theorem within_ext {a b : List Int} (h : ∀ x, x ∈ a ↔ x ∈ b) (v : Int) : withinB a v = withinB b v := by
  unfold withinB
  rw [Bool.eq_iff_iff, Bool.and_eq_true, Bool.and_eq_true, List.all_eq_true, List.all_eq_true, List.all_eq_true, List.all_eq_true]
  exact ⟨fun k => ⟨fun x hx => k.1 x ((h x).2 hx), fun x hx => k.2 x ((h x).2 hx)⟩, fun k => ⟨fun x hx => k.1 x ((h x).1 hx), fun x hx => k.2 x ((h x).1 hx)⟩⟩
theorem all_sc {cs ds : List (List Int)} (h : SC cs ds) (p : List Int → Bool) (hp : ∀ a b : List Int, (∀ x, x ∈ a ↔ x ∈ b) → p a = p b) : cs.all p = ds.all p := by
  rw [Bool.eq_iff_iff, List.all_eq_true, List.all_eq_true]
  constructor
  · intro k d hd
    obtain ⟨c, hc, e⟩ := h.2 d hd
    rw [hp d c e]; exact k c hc
  · intro k c hc
    obtain ⟨d, hd, e⟩ := h.1 c hc
    rw [hp c d e]; exact k d hd
theorem formed_sc {cs ds : List (List Int)} (h : SC cs ds) (v : Int) : formedB v cs = formedB v ds := by
  unfold formedB
  rw [all_sc h (fun c => withinB c v) (fun a b e => within_ext e v)]
theorem sound_ext {a b : List Int} (h : ∀ x, x ∈ a ↔ x ∈ b) : a.all fm = b.all fm := by
  rw [Bool.eq_iff_iff, List.all_eq_true, List.all_eq_true]
  exact ⟨fun k x hx => k x ((h x).2 hx), fun k x hx => k x ((h x).1 hx)⟩
theorem clash_sc {cs ds : List (List Int)} (h : SC cs ds) {F G : List Int} (hF : ∀ x, x ∈ F ↔ x ∈ G) : Clash cs F ↔ Clash ds G :=
  ⟨fun k => k.mono h.1 (fun x hx => (hF x).1 hx), fun k => k.mono h.2 (fun x hx => (hF x).2 hx)⟩
theorem follows_sc {v : Int} {cs ds : List (List Int)} (h : SC cs ds) {a b : List Int} (he : ∀ x, x ∈ a ↔ x ∈ b) (h1 : formedB v cs = true) (ha : ∀ x ∈ a, fm x = true) : followsR v cs a = followsR v ds b := by
  rw [Bool.eq_iff_iff, follows_iff h1 ha, follows_iff (by rw [← formed_sc h v]; exact h1) (fun x hx => ha x ((he x).2 hx))]
  exact clash_sc h fun x => by rw [mem_negL, mem_negL, he]
theorem safe_sc {v : Int} {cs ds : List (List Int)} (h : SC cs ds) {a b : List Int} (he : ∀ x, x ∈ a ↔ x ∈ b) (h0 : a.getD 0 0 = b.getD 0 0) (hl : 0 < a.length ↔ 0 < b.length) (h1 : formedB v cs = true) : safeR v cs a = safeR v ds b := by
  unfold safeR
  rw [h0, show decide (0 < a.length) = decide (0 < b.length) by rw [Bool.eq_iff_iff, decide_eq_true_eq, decide_eq_true_eq]; exact hl]
  congr 1
  have hR : (fun rest => followsR v cs (joinL a rest)) = fun rest => followsR v ds (joinL b rest) := funext fun rest => by
    rw [join_ext he (fun _ => Iff.rfl)]
    exact follows_sc h (fun _ => Iff.rfl) h1 (join_fm b rest)
  rw [hR]
  exact all_sc h _ fun x y e => partB_ext e _ _
theorem blocked_sc {cs ds : List (List Int)} (h : SC cs ds) {a b : List Int} (he : ∀ x, x ∈ a ↔ x ∈ b) (h0 : a.getD 0 0 = b.getD 0 0) (hl : 0 < a.length ↔ 0 < b.length) : blockedB cs a = blockedB ds b := by
  unfold blockedB
  rw [h0, without_ext he, show decide (0 < a.length) = decide (0 < b.length) by rw [Bool.eq_iff_iff, decide_eq_true_eq, decide_eq_true_eq]; exact hl]
  congr 1
  exact all_sc h _ fun x y e => partB_ext e _ _

def rvL (d : List Int) : List Int := d.reverse ++ d.take 1
theorem mem_rvL (d : List Int) (x : Int) : x ∈ rvL d ↔ x ∈ d := by
  unfold rvL
  rw [List.mem_append, List.mem_reverse]
  exact ⟨fun h => h.elim id (fun h => List.mem_of_mem_take h), .inl⟩
def rotL (p : Nat) (cs : List (List Int)) : List (List Int) := (cs.drop p ++ cs.take p).map rvL
theorem rot_sc (p : Nat) (cs : List (List Int)) : SC cs (rotL p cs) := by
  have hm : ∀ d, d ∈ cs.drop p ++ cs.take p ↔ d ∈ cs := fun d => by
    rw [List.mem_append]
    constructor
    · rintro (h | h)
      · exact List.mem_of_mem_drop h
      · exact List.mem_of_mem_take h
    · intro h
      rw [← List.take_append_drop p cs, List.mem_append] at h
      exact h.symm
  refine ⟨fun c hc => ⟨rvL c, List.mem_map.2 ⟨c, (hm c).2 hc, rfl⟩, fun x => (mem_rvL c x).symm⟩, fun d hd => ?_⟩
  obtain ⟨c, hc, rfl⟩ := List.mem_map.1 hd
  exact ⟨c, (hm c).1 hc, fun x => mem_rvL c x⟩
theorem rot_get {p : Nat} {cs : List (List Int)} (hp : p < cs.length) {t : Nat} (ht : t < cs.length) : (rotL p cs)[t]? = some (rvL (cs.getD ((t + p) % cs.length) [])) := by
  unfold rotL
  rw [List.getElem?_map]
  have : (cs.drop p ++ cs.take p)[t]? = some (cs.getD ((t + p) % cs.length) []) := by
    by_cases h : t < cs.length - p
    · rw [List.getElem?_append_left (by rw [List.length_drop]; exact h), List.getElem?_drop, Nat.mod_eq_of_lt (by omega), List.getD_eq_getElem?_getD, show p + t = t + p by omega, List.getElem?_eq_getElem (by omega)]; rfl
    · rw [List.getElem?_append_right (by rw [List.length_drop]; omega), List.length_drop, List.getElem?_take_of_lt (by omega)]
      have e : (t + p) % cs.length = t - (cs.length - p) := by
        rw [show t + p = (t - (cs.length - p)) + cs.length by omega, Nat.add_mod_right, Nat.mod_eq_of_lt (by omega)]
      rw [e, List.getD_eq_getElem?_getD, List.getElem?_eq_getElem (by omega)]; rfl
  rw [this]; rfl
theorem rot_len (p : Nat) (cs : List (List Int)) : (rotL p cs).length = cs.length := by unfold rotL; rw [List.length_map, List.length_append, List.length_drop, List.length_take]; omega
theorem rot_count (p : Nat) (cs : List (List Int)) (l : Int) : (rotL p cs).countP (fun d => hasB d l) = cs.countP fun d => hasB d l := by
  unfold rotL
  rw [List.countP_map]
  have : ((fun d => hasB d l) ∘ rvL) = fun d => hasB d l := funext fun d => hasB_ext (fun x => mem_rvL d x) l
  rw [this, List.countP_append, Nat.add_comm, ← List.countP_append, List.take_append_drop]
def frontL (c : List Int) : List Int := c.take 1 ++ c.take 1 ++ (c.drop 1).reverse
theorem mem_frontL (c : List Int) (x : Int) : x ∈ c ↔ x ∈ frontL c := by
  unfold frontL
  rw [List.mem_append, List.mem_append, List.mem_reverse]
  constructor
  · intro h
    rw [← List.take_append_drop 1 c, List.mem_append] at h
    rcases h with h | h
    · exact .inl (.inl h)
    · exact .inr h
  · rintro ((h | h) | h)
    · exact List.mem_of_mem_take h
    · exact List.mem_of_mem_take h
    · exact List.mem_of_mem_drop h
theorem front_get (c : List Int) : c.getD 0 0 = (frontL c).getD 0 0 := by
  cases c <;> rfl
theorem front_pos (c : List Int) : 0 < c.length ↔ 0 < (frontL c).length := by
  cases c <;> simp [frontL]

end Go.Proofs.Ythbccfgcemdgeab.Rf
