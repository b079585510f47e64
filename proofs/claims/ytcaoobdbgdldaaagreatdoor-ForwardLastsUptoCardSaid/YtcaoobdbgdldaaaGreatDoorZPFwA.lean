/- Part of the proof of ForwardLasts: what the law uses of the text FwA. -/
import Derived.Test.YtcaoobdbgdldaaaGreatDoorZPJFollows
import Derived.Lib.ItoaNum
import Derived.Lib.ItoaLen
namespace Go.Proofs.YtcaoobdbgdldaaaGreatDoor.Fwd
open Go.RowKit Go.Proofs.YtcaoobdbgdldaaaGreatDoor.Lit Go.Proofs.YtcaoobdbgdldaaaGreatDoor.Spr
set_option linter.unusedVariables false
set_option linter.unusedSimpArgs false

def ddVal (l : List UInt8) : Nat := l.foldl (fun a d => 10 * a + (d.toNat - 48)) 0
theorem ddVal_snoc (l : List UInt8) (d : UInt8) : ddVal (l ++ [d]) = 10 * ddVal l + (d.toNat - 48) := by unfold ddVal; rw [List.foldl_append]; rfl
theorem toNat_digit {u : Nat} (h : u < 10) : (UInt8.ofNat (48 + u)).toNat = 48 + u := by
  rw [UInt8.toNat_ofNat']; omega
theorem dd_val (u : Nat) : ddVal (Lib.decDigits u) = u := by
  induction u using Nat.strongRecOn with
  | _ u ih =>
    rw [Lib.decDigits]
    split
    · rename_i h
      unfold ddVal
      simp only [List.foldl_cons, List.foldl_nil]
      rw [toNat_digit h]; omega
    · rename_i h
      rw [ddVal_snoc, ih _ (by omega), toNat_digit (by omega)]; omega
theorem dd_digit (u : Nat) : ∀ b ∈ Lib.decDigits u, 48 ≤ b.toNat := by
  induction u using Nat.strongRecOn with
  | _ u ih =>
    rw [Lib.decDigits]
    split
    · rename_i h
      intro b hb
      rw [List.mem_singleton.1 hb, toNat_digit h]; omega
    · rename_i h
      intro b hb
      rcases List.mem_append.1 hb with hb | hb
      · exact ih _ (by omega) b hb
      · rw [List.mem_singleton.1 hb, toNat_digit (by omega)]; omega
theorem itoa_no32 (n : Int) : (32 : UInt8) ∉ Lib.itoa n := by
  unfold Lib.itoa
  intro h
  split at h
  · rcases List.mem_cons.1 h with e | e
    · exact absurd e (by decide)
    · have := dd_digit _ _ e; exact absurd this (by decide)
  · have := dd_digit _ _ h; exact absurd this (by decide)
theorem itoa_inj {a b : Int} (h : Lib.itoa a = Lib.itoa b) : a = b := by
  have h45 : ∀ u, ∀ t, Lib.decDigits u ≠ 45 :: t := fun u t e => by
    have := dd_digit u 45 (by rw [e]; exact List.mem_cons_self)
    exact absurd this (by decide)
  unfold Lib.itoa at h
  split at h
  · split at h
    · have e := congrArg ddVal (List.cons.inj h).2
      rw [dd_val, dd_val] at e
      omega
    · exact absurd h.symm (h45 _ _)
  · split at h
    · exact absurd h (h45 _ _)
    · have e := congrArg ddVal h
      rw [dd_val, dd_val] at e
      omega

def txt (c : List Int) : List UInt8 := c.flatMap fun l => Lib.itoa l ++ [32]
theorem txt_cons (x : Int) (t : List Int) : txt (x :: t) = Lib.itoa x ++ 32 :: txt t := by unfold txt; rw [List.flatMap_cons, List.append_assoc]; rfl
theorem txt_snoc (c : List Int) (x : Int) : txt (c ++ [x]) = txt c ++ Lib.itoa x ++ [32] := by unfold txt; rw [List.flatMap_append]; simp
theorem split32 : ∀ (a b r s : List UInt8), (32 : UInt8) ∉ a → (32 : UInt8) ∉ b → a ++ 32 :: r = b ++ 32 :: s → a = b ∧ r = s
  | [], [], r, s, _, _, h => ⟨rfl, (List.cons.inj h).2⟩
  | [], y :: b, r, s, _, hb, h => absurd (List.mem_cons.2 (.inl (List.cons.inj h).1)) hb
  | x :: a, [], r, s, ha, _, h => absurd (List.mem_cons.2 (.inl (List.cons.inj h).1.symm)) ha
  | x :: a, y :: b, r, s, ha, hb, h => by
    obtain ⟨e1, e2⟩ := List.cons.inj h
    obtain ⟨e3, e4⟩ := split32 a b r s (fun h => ha (List.mem_cons_of_mem _ h)) (fun h => hb (List.mem_cons_of_mem _ h)) e2
    exact ⟨by rw [e1, e3], e4⟩
theorem txt_inj : ∀ (a b : List Int), txt a = txt b → a = b
  | [], [], _ => rfl
  | [], y :: b, h => by rw [txt_cons] at h; exact absurd h.symm (by simp [txt])
  | x :: a, [], h => by rw [txt_cons] at h; exact absurd h (by simp [txt])
  | x :: a, y :: b, h => by
    rw [txt_cons, txt_cons] at h
    obtain ⟨e1, e2⟩ := split32 _ _ _ _ (itoa_no32 x) (itoa_no32 y) h
    rw [itoa_inj e1, txt_inj a b e2]
theorem txt_len {B : Nat} : ∀ (c : List Int), (∀ x ∈ c, -9223372036854775808 ≤ x ∧ x ≤ 9223372036854775807) → (txt c).length ≤ 22 * c.length
  | [], _ => by simp [txt]
  | x :: t, h => by
    rw [txt_cons, List.length_append, List.length_cons, List.length_cons]
    have := txt_len (B := B) t fun y hy => h y (List.mem_cons_of_mem _ hy)
    have hx := h x List.mem_cons_self
    have := Lib.itoa_length_le x hx.1 hx.2
    omega

structure Fw where
  ms : List (List Int)
  all : List (List Int)
  vars : Int
  done : Bool
def reachV (v : Int) (t : List Int) : Int := t.foldl (fun m l => max m (lv l)) v
theorem reachV_snoc (v : Int) (t : List Int) (x : Int) : reachV v (t ++ [x]) = max (reachV v t) (lv x) := by unfold reachV; rw [List.foldl_append]; rfl
def putW (F : Fw) (c : List Int) : Fw :=
  { F with ms := F.ms ++ [tidyL c], all := if F.ms.count (tidyL c) = 0 then F.all ++ [tidyL c] else F.all, vars := reachV F.vars (tidyL c) }
def newW (cs : List (List Int)) : Fw := cs.foldl putW ⟨[], [], 0, false⟩
theorem newW_snoc (cs : List (List Int)) (c : List Int) : newW (cs ++ [c]) = putW (newW cs) c := by unfold newW; rw [List.foldl_append]; rfl
def kindR (v : Int) (cs : List (List Int)) (c : List Int) : Int := if followsR v cs c = true then 1 else (if safeR v cs c = true then 2 else 0)
def kindF (v : Int) (cs : List (List Int)) (c : List Int) : Int × Int := if formedB v cs && c.all fm then (kindR v cs c, 0) else (0, 1)
def refusesR (F : Fw) (c : List Int) : Int := if c.all fm = true then (if F.done = true then 3 else 0) else 1
def addW (F : Fw) (c : List Int) : Int × Int × Fw :=
  if refusesR F c = 0 then
    (if (kindF F.vars F.all c).1 = 0 then (0, 0, F) else ((kindF F.vars F.all c).1, 0, { putW F c with done := decide (c.length = 0) }))
  else (0, refusesR F c, F)
def isV (L : List Int) (x : Int) : Int := L.foldl (fun a l => if x = -l then -1 else (if x = l then 1 else a)) 0
theorem isV_snoc (L : List Int) (l x : Int) : isV (L ++ [l]) x = if x = -l then -1 else (if x = l then 1 else isV L x) := by unfold isV; rw [List.foldl_append]; rfl
def sumR (L c : List Int) : Int := c.foldl (fun a l => a + isV L l) 0
def truthsR (L c : List Int) : Int := c.foldl (fun a l => a + (if isV L l = 1 then 1 else 0)) 0
theorem sumR_snoc (L c : List Int) (x : Int) : sumR L (c ++ [x]) = sumR L c + isV L x := by unfold sumR; rw [List.foldl_append]; rfl
theorem truthsR_snoc (L c : List Int) (x : Int) : truthsR L (c ++ [x]) = truthsR L c + (if isV L x = 1 then 1 else 0) := by unfold truthsR; rw [List.foldl_append]; rfl
theorem isV_bd (L : List Int) (x : Int) : -1 ≤ isV L x ∧ isV L x ≤ 1 := by
  have : ∀ (L : List Int) (a : Int), -1 ≤ a ∧ a ≤ 1 → -1 ≤ L.foldl (fun a l => if x = -l then -1 else (if x = l then 1 else a)) a ∧ L.foldl (fun a l => if x = -l then -1 else (if x = l then 1 else a)) a ≤ 1 := by
    intro L
    induction L with
    | nil => exact fun a h => h
    | cons l t ih =>
      intro a h
      rw [List.foldl_cons]
      refine ih _ ?_
      split
      · omega
      · split <;> omega
  exact this L 0 (by omega)
def knownR (F : Fw) (t : List Int) : Bool :=
  if (closeR F.vars F.all []).2.1 = true then true else decide (truthsR (closeR F.vars F.all []).1 t = 1) && decide (sumR (closeR F.vars F.all []).1 t = 2 - t.length)
def goneW (F : Fw) (t : List Int) : Fw := { F with ms := F.ms.erase t, all := if F.ms.count t = 1 then F.all.filter (fun d => !(t == d)) else F.all }
def dropW (F : Fw) (c : List Int) : Int × Int × Fw :=
  if refusesR F c = 0 then
    (if F.ms.count (tidyL c) = 0 then (0, 0, F) else (if knownR F (tidyL c) = true then (2, 0, F) else (1, 0, goneW F (tidyL c))))
  else (0, refusesR F c, F)
def takeW (F : Fw) (drop : Bool) (c : List Int) : Int × Fw :=
  if drop = true then
    (if (dropW F c).2.1 ≠ 0 then (5, (dropW F c).2.2) else (if (dropW F c).1 = 0 then (3, (dropW F c).2.2) else (0, (dropW F c).2.2)))
  else
    (if (addW F c).2.1 ≠ 0 then (5, (addW F c).2.2) else (if (addW F c).1 = 0 then (2, (addW F c).2.2) else (if (addW F c).2.2.done = true then (1, (addW F c).2.2) else (0, (addW F c).2.2))))
def stepsW (F : Fw) (i : Nat) : List (Bool × List Int) → Int × Int
  | [] => (4, i)
  | (d, c) :: t => if (takeW F d c).1 ≠ 0 then ((takeW F d c).1, i) else stepsW (takeW F d c).2 (i + 1) t
def checkW (v : Int) (cs : List (List Int)) (l : List (Bool × List Int)) : Int × Int × Int :=
  if formedB v cs = true then ((stepsW (newW cs) 0 l).1, (stepsW (newW cs) 0 l).2, 0) else (0, 0, 1)

end Go.Proofs.YtcaoobdbgdldaaaGreatDoor.Fwd
