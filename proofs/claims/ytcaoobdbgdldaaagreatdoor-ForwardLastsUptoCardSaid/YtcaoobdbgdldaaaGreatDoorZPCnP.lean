/- Part of the proof of ForwardLasts: what the law uses of the text CnP. -/
import Derived.WalkKit
namespace Go.Proofs.YtcaoobdbgdldaaaGreatDoor.Cn
set_option linter.unusedVariables false

def nextL : List Bool → Option (List Bool)
  | [] => none
  | false :: t => some (true :: t)
  | true :: t => (nextL t).map (false :: ·)
def allM : Nat → List (List Bool)
  | 0 => [[]]
  | n + 1 => (allM n).flatMap fun t => [false :: t, true :: t]
def Linked : List (List Bool) → Prop
  | [] => True
  | x :: b => nextL x = b.head? ∧ Linked b
theorem linked_more : ∀ (L : List (List Bool)), Linked L → Linked (L.flatMap fun t => [false :: t, true :: t])
  | [], _ => trivial
  | t :: L, h => by
    obtain ⟨h1, h2⟩ := h
    rw [List.flatMap_cons]
    refine ⟨rfl, ?_, linked_more L h2⟩
    show (nextL t).map (false :: ·) = _
    rw [h1]
    cases L with
    | nil => rfl
    | cons u L => rfl
theorem linked_all : ∀ n, Linked (allM n)
  | 0 => ⟨rfl, trivial⟩
  | n + 1 => linked_more _ (linked_all n)
theorem all_len : ∀ (n : Nat) (m : List Bool), m ∈ allM n ↔ m.length = n
  | 0, m => by
    unfold allM
    rw [List.mem_singleton]
    exact List.length_eq_zero_iff.symm
  | n + 1, m => by
    unfold allM
    rw [List.mem_flatMap]
    constructor
    · rintro ⟨t, ht, hm⟩
      have := (all_len n t).1 ht
      simp at hm
      rcases hm with rfl | rfl <;> simp [this]
    · intro h
      cases m with
      | nil => simp at h
      | cons b t =>
        refine ⟨t, (all_len n t).2 (by simpa using h), ?_⟩
        cases b <;> simp
theorem all_first : ∀ n, ∃ r, allM n = List.replicate n false :: r
  | 0 => ⟨[], rfl⟩
  | n + 1 => by
    obtain ⟨r, h⟩ := all_first n
    unfold allM
    rw [h, List.flatMap_cons]
    exact ⟨_, rfl⟩
theorem linked_at : ∀ (a : List (List Bool)) (x : List Bool) (b : List (List Bool)), Linked (a ++ x :: b) → nextL x = b.head?
  | [], _, _, h => h.1
  | _ :: a, x, b, h => linked_at a x b h.2
def val : List Bool → Nat
  | [] => 0
  | b :: t => (if b then 1 else 0) + 2 * val t
theorem val_next : ∀ {m m' : List Bool}, nextL m = some m' → val m' = val m + 1
  | [], _, h => by cases h
  | false :: t, _, h => by cases h; simp [val]; omega
  | true :: t, m', h => by
    unfold nextL at h
    obtain ⟨u, hu, rfl⟩ := Option.map_eq_some_iff.1 h
    have := val_next hu
    simp [val]
    omega
theorem val_lt : ∀ (m : List Bool), val m < 2 ^ m.length
  | [] => by simp [val]
  | b :: t => by
    have := val_lt t
    rw [List.length_cons, Nat.pow_succ]
    unfold val
    split <;> omega
theorem next_split : ∀ (i : Nat) (m : List Bool), (∀ j, j < i → m[j]? = some true) → m[i]? = some false → nextL m = some (List.replicate i false ++ (true :: m.drop (i + 1)))
  | 0, m, _, h => by
    cases m with
    | nil => simp at h
    | cons b t =>
      simp at h
      subst h
      rfl
  | i + 1, m, h1, h => by
    cases m with
    | nil => simp at h
    | cons b t =>
      have h0 := h1 0 (by omega)
      simp at h0
      subst h0
      have := next_split i t (fun j hj => by simpa using h1 (j + 1) (by omega)) (by simpa using h)
      unfold nextL
      rw [this]
      simp [List.replicate_succ]
theorem next_none : ∀ (m : List Bool), (∀ j, j < m.length → m[j]? = some true) → nextL m = none
  | [], _ => rfl
  | b :: t, h => by
    have h0 := h 0 (by simp)
    simp at h0
    subst h0
    unfold nextL
    rw [next_none t (fun j hj => by simpa using h (j + 1) (by simpa using hj))]
    rfl

end Go.Proofs.YtcaoobdbgdldaaaGreatDoor.Cn
