/- Part of the proof of ForwardLasts: what the law uses of the text ClM. -/
import Derived.Test.YtcaoobdbgdldaaaGreatDoorZPClC
import Derived.Test.YtcaoobdbgdldaaaGreatDoorZPFwM
import Derived.Test.YtcaoobdbgdldaaaGreatDoorZPFwL
import Derived.Test.YtcaoobdbgdldaaaGreatDoorZPCnH
namespace Go.Proofs.YtcaoobdbgdldaaaGreatDoor.Cl
open Go.RowKit Go.Proofs.YtcaoobdbgdldaaaGreatDoor.Lit Go.Proofs.YtcaoobdbgdldaaaGreatDoor.Spr Go.Proofs.YtcaoobdbgdldaaaGreatDoor.Fwd
set_option linter.unusedVariables false
set_option linter.unusedSimpArgs false

def opW (F : Fw) (z : Int) (c : List Int) : Fw := if Int.tmod z 2 = 0 then (addW F c).2.2 else (dropW F c).2.2
def opsW (F : Fw) (l : List (Int × List Int)) : Fw := l.foldl (fun F s => opW F s.1 s.2) F
theorem opsW_snoc (F : Fw) (l : List (Int × List Int)) (s : Int × List Int) : opsW F (l ++ [s]) = opW (opsW F l) s.1 s.2 := by unfold opsW; rw [List.foldl_append]; rfl
theorem opsW_succ (F : Fw) (l : List (Int × List Int)) (k : Nat) (hk : k < l.length) : opsW F (l.take (k + 1)) = opW (opsW F (l.take k)) (l.getD k (0, [])).1 (l.getD k (0, [])).2 := by
  rw [← opsW_snoc, List.take_add_one, List.getD_eq_getElem?_getD, List.getElem?_eq_getElem hk]; rfl

theorem add_ms (F : Fw) (c : List Int) : ((addW F c).2.2.ms.length : Int) = F.ms.length + (if (addW F c).2.1 = 0 ∧ (addW F c).1 ≠ 0 then 1 else 0) := by
  unfold addW
  split
  · split
    · simp
    · rename_i h
      rw [if_pos ⟨rfl, h⟩]
      simp [putW]
  · rename_i h
    rw [if_neg (fun h2 => h h2.1)]
    simp
theorem drop_ms (F : Fw) (c : List Int) : ((dropW F c).2.2.ms.length : Int) = F.ms.length - (if (dropW F c).2.1 = 0 ∧ (dropW F c).1 = 1 then 1 else 0) := by
  unfold dropW
  split
  · split
    · simp
    · split
      · simp
      · rename_i h _
        rw [if_pos ⟨rfl, rfl⟩]
        have hc : tidyL c ∈ F.ms := List.count_pos_iff.1 (by omega)
        have := List.length_erase_of_mem hc
        have := List.length_pos_of_mem hc
        simp only [goneW]
        omega
  · rename_i h
    rw [if_neg (fun h2 => h h2.1)]
    simp

def ND (F : Fw) : Prop := F.all.Nodup ∧ ∀ t, t ∈ F.all ↔ t ∈ F.ms
theorem ND.put {F : Fw} (h : ND F) (c : List Int) : ND (putW F c) := by
  obtain ⟨h1, h2⟩ := h
  unfold putW ND
  dsimp only
  split
  · rename_i h0
    have hn : tidyL c ∉ F.all := fun h => by
      have := List.count_pos_iff.2 ((h2 _).1 h)
      omega
    refine ⟨List.nodup_append.2 ⟨h1, by simp, fun a ha b hb e => hn ?_⟩, fun t => ?_⟩
    · rw [List.mem_singleton] at hb
      rw [← hb, ← e]; exact ha
    · rw [List.mem_append, List.mem_append, h2 t]
  · rename_i h0
    refine ⟨h1, fun t => ?_⟩
    rw [List.mem_append, h2 t, List.mem_singleton]
    constructor
    · exact .inl
    · rintro (h | h)
      · exact h
      · rw [h]; exact List.count_pos_iff.1 (by omega)
theorem ND.new (cs : List (List Int)) : ND (newW cs) := by
  unfold newW
  have : ∀ (cs : List (List Int)) (F : Fw), ND F → ND (cs.foldl putW F) := by
    intro cs
    induction cs with
    | nil => exact fun F h => h
    | cons c t ih => exact fun F h => ih _ (h.put c)
  exact this cs _ ⟨by simp, fun t => by simp⟩
theorem ND.add {F : Fw} (h : ND F) (c : List Int) : ND (addW F c).2.2 := by
  unfold addW
  split
  · split
    · exact h
    · exact (h.put c)
  · exact h
theorem ND.drop {F : Fw} (h : ND F) (c : List Int) : ND (dropW F c).2.2 := by
  unfold dropW
  split
  · split
    · exact h
    · split
      · exact h
      · rename_i h0 _
        obtain ⟨h1, h2⟩ := h
        unfold goneW ND
        dsimp only
        split
        · rename_i hc
          refine ⟨h1.filter _, fun t => ?_⟩
          rw [List.mem_filter, h2 t]
          by_cases e : t = tidyL c
          · subst e
            have : tidyL c ∉ F.ms.erase (tidyL c) := fun h => by
              have := List.count_pos_iff.2 h
              rw [List.count_erase_self] at this
              omega
            simp [this]
          · rw [List.mem_erase_of_ne e]
            have : ¬ tidyL c = t := fun h => e h.symm
            simp [this]
        · rename_i hc
          refine ⟨h1, fun t => ?_⟩
          rw [h2 t]
          by_cases e : t = tidyL c
          · subst e
            constructor
            · intro _
              refine List.count_pos_iff.1 ?_
              rw [List.count_erase_self]
              omega
            · exact List.mem_of_mem_erase
          · rw [List.mem_erase_of_ne e]
  · exact h
theorem ND.ops {F : Fw} (h : ND F) : ∀ l, ND (opsW F l) := by
  intro l
  induction l generalizing F with
  | nil => exact h
  | cons s t ih =>
    refine ih (F := opW F s.1 s.2) ?_
    unfold opW
    split
    · exact h.add _
    · exact h.drop _
theorem sum_counts (ms : List (List Int)) (a : List Int) : ∀ ds : List (List Int), ds.Nodup → (ds.map fun c => (List.replicate (ms.count c) c).count a).sum = if a ∈ ds then ms.count a else 0
  | [], _ => by simp
  | d :: t, h => by
    have h' := List.nodup_cons.1 h
    rw [List.map_cons, List.sum_cons, sum_counts ms a t h'.2, List.count_replicate]
    by_cases e : d = a
    · subst e
      rw [if_neg h'.1, if_pos List.mem_cons_self]
      simp
    · have e2 : ¬ a = d := fun h => e h.symm
      simp [e, e2]
theorem outL_perm {ms ds : List (List Int)} (hn : ds.Nodup) (hm : ∀ t ∈ ms, t ∈ ds) : (outL ms ds ds.length).Perm ms := by
  rw [List.perm_iff_count]
  intro a
  unfold outL
  rw [List.take_length, List.count_flatMap]
  have := sum_counts ms a ds hn
  rw [show (List.map (List.count a ∘ fun c => List.replicate (List.count c ms) c) ds) = ds.map fun c => (List.replicate (ms.count c) c).count a from rfl, this]
  split
  · rfl
  · rename_i h
    exact (List.count_eq_zero.2 fun h2 => h (hm a h2)).symm
theorem outL_le (ms ds : List (List Int)) (k : Nat) : (outL ms ds k).length ≤ (outL ms ds ds.length).length := by
  have e : outL ms ds ds.length = outL ms ds k ++ (ds.drop k).flatMap fun c => List.replicate (ms.count c) c := by
    unfold outL
    rw [List.take_length, ← List.flatMap_append, List.take_append_drop]
  rw [e, List.length_append]
  omega
theorem ND.out {F : Fw} (h : ND F) {ds : List (List Int)} (hp : ds.Perm F.all) : (outL F.ms ds ds.length).Perm F.ms :=
  outL_perm (hp.nodup_iff.2 h.1) fun t ht => hp.mem_iff.2 ((h.2 t).2 ht)

def LiveD (F : Fw) : Prop := Live F ∧ F.done = false
theorem LiveD.op {F : Fw} (h : LiveD F) (z : Int) (c : List Int) : LiveD (opW F z c) := by
  unfold opW
  split
  · obtain ⟨h1, h2⟩ := h.1.add c
    refine ⟨h1, ?_⟩
    unfold addW at h2 ⊢
    split
    · rename_i hr
      rw [if_pos hr] at h2
      split
      · exact h.2
      · rename_i hk
        rw [if_neg hk] at h2
        have := h2 hk
        simpa using this
    · exact h.2
  · refine ⟨h.1.drop c, ?_⟩
    unfold dropW
    split
    · split
      · exact h.2
      · split
        · exact h.2
        · exact h.2
    · exact h.2
theorem LiveD.ops {F : Fw} (h : LiveD F) : ∀ l, LiveD (opsW F l) := by
  intro l
  induction l generalizing F with
  | nil => exact h
  | cons s t ih => exact ih (h.op s.1 s.2)
theorem new_doneF (cs : List (List Int)) : (newW cs).done = false := by
  unfold newW
  have : ∀ (l : List (List Int)) (F : Fw), F.done = false → (l.foldl putW F).done = false := by
    intro l
    induction l with
    | nil => exact fun F h => h
    | cons c t ih => exact fun F h => ih _ h
  exact this cs _ rfl
theorem formed_mem {v : Int} {cs : List (List Int)} (h : formedB v cs = true) : ∀ c ∈ cs, ∀ x ∈ c, fm x = true ∧ x ≠ 0 ∧ -v ≤ x ∧ x ≤ v := fun c hc x hx => by
  unfold formedB at h
  simp only [Bool.and_eq_true, decide_eq_true_eq] at h
  have h := List.all_eq_true.1 h.2 c hc
  unfold withinB at h
  rw [Bool.and_eq_true] at h
  have h1 := List.all_eq_true.1 h.1 x hx
  have h2 := of_decide_eq_true (List.all_eq_true.1 h.2 x hx)
  have h3 := fm_true h1
  unfold lv at h2
  rw [if_pos h1] at h2
  refine ⟨h1, h3.1, ?_⟩
  split at h2 <;> omega
theorem tv_not (m : List Bool) {x : Int} (h : x ≠ 0) : Cn.tv m (-x) = !Cn.tv m x := by
  unfold Cn.tv
  by_cases h0 : x < 0
  · rw [if_neg (by omega), if_pos h0]; simp
  · rw [if_pos (by omega), if_neg h0, Int.neg_neg]
theorem mods_of {V : Int} {cs : List (List Int)} {val : Int → Bool} (hf : formedB V cs = true) (hv : Proper val) (hm : Mod val cs) : Cn.mods cs V.toNat ≠ [] := by
  intro h0
  have hF := formed_mem hf
  have hin : ((List.range V.toNat).map fun i : Nat => val ((i : Int) + 1)) ∈ Cn.mods cs V.toNat := by
    unfold Cn.mods
    refine List.mem_filter.2 ⟨(Cn.all_len _ _).2 (by simp), ?_⟩
    unfold Cn.sat
    refine List.all_eq_true.2 fun c hc => ?_
    obtain ⟨x, hx, hvx⟩ := hm c hc
    refine List.any_eq_true.2 ⟨x, hx, ?_⟩
    obtain ⟨_, hn, hl, hu⟩ := hF c hc x hx
    have hg : ∀ n : Nat, n < V.toNat → ((List.range V.toNat).map fun i : Nat => val ((i : Int) + 1)).getD n false = val ((n : Int) + 1) := fun n hn => by
      rw [List.getD_eq_getElem?_getD, List.getElem?_map, List.getElem?_range hn]; rfl
    unfold Cn.tv
    split
    · rename_i hneg
      rw [hg _ (by omega), show (((-x - 1).toNat : Nat) : Int) + 1 = -x by omega, hv x hn, hvx]; rfl
    · rename_i hpos
      rw [hg _ (by omega), show (((x - 1).toNat : Nat) : Int) + 1 = x by omega]; exact hvx
  rw [h0] at hin
  cases hin
theorem lasts_math {v V1 V2 : Int} {cs now : List (List Int)} {l : List (Int × List Int)} (hf : formedB v cs = true) (h1 : formedB V1 cs = true) (h2 : formedB V2 now = true) (hV1 : V1 ≤ 16) (hV2 : V2 ≤ 16) (hp : now.Perm (opsW (newW cs) l).ms) :
    (Cn.countW V1 cs).2 = 0 ∧ (Cn.countW V2 now).2 = 0 ∧ ((Cn.countW V1 cs).1 = 0 ∨ (0 < (Cn.countW V2 now).1 ∧ (opsW (newW cs) l).done = false)) := by
  unfold Cn.countW
  rw [if_pos h1, if_pos h2, if_neg (by omega), if_neg (by omega)]
  refine ⟨rfl, rfl, ?_⟩
  dsimp only
  by_cases h0 : Cn.mods cs V1.toNat = []
  · left; rw [h0]; rfl
  · right
    obtain ⟨m, hm⟩ := List.exists_mem_of_ne_nil _ h0
    have hs : Cn.sat cs m = true := by unfold Cn.mods at hm; exact (List.mem_filter.1 hm).2
    have hmod : Mod (Cn.tv m) cs := fun c hc => by
      unfold Cn.sat at hs
      exact List.any_eq_true.1 (List.all_eq_true.1 hs c hc)
    have hL : LiveD (newW cs) := ⟨Live.new (v := v) (fun c hc x hx => (formed_mem hf c hc x hx).1) (fun x hx => tv_not m hx) hmod, new_doneF cs⟩
    obtain ⟨⟨_, val, hv, hM⟩, hd⟩ := hL.ops l
    refine ⟨?_, hd⟩
    have hnd := (ND.new cs).ops l
    have := mods_of h2 hv (fun c hc => hM c ((hnd.2 c).2 (hp.mem_iff.1 hc)))
    have := List.length_pos_iff.2 this
    omega

end Go.Proofs.YtcaoobdbgdldaaaGreatDoor.Cl
