/- Back: what it leaves, as plain data: the trail's last literals are undone, the numbers count as they did. -/
import Derived.Test.YthbccfgcemdgeaaUpD
namespace Go.Proofs.Ythbccfgcemdgeaa.Spr
open Go.RowKit Go.Proofs.Ythbccfgcemdgeaa.Lit

def downOn (S : St) (n : Int) : St := { S with on := S.on.set n.toNat (wrap64 (S.on.getD n.toNat 0 - 1)) }
def upOpn (S : St) (n : Int) : St := { S with opn := S.opn.set n.toNat (wrap64 (S.opn.getD n.toNat 0 + 1)) }
/-- The trail's last literal. -/
def lastL (S : St) : Int := S.trail.getD (S.trail.length - 1) 0
def setDone (S : St) (x : Int) : St := { S with done := x }
/-- The numbers without the last literal. -/
def unSt (S : St) : St :=
  if ((S.trail.length - 1 : Nat) : Int) < S.done then (inAt S (-(lastL S))).foldl upOpn ((inAt S (lastL S)).foldl downOn (setDone S ((S.trail.length - 1 : Nat) : Int))) else S
def clearSt (S : St) (l : Int) : St := { S with value := S.value.set (S.ids.idxOf (lv l)) 0 }
def cutSt (S : St) (n : Nat) : St := { S with trail := S.trail.take n }
/-- One literal undone. -/
def backStep (S : St) : St := cutSt (clearSt (unSt S) (lastL S)) (S.trail.length - 1)
def backF : Nat → St → St
  | 0, S => S
  | k + 1, S => backF k (backStep S)
def goodBad (S : St) : St := { S with bad := -1 }
def backSt (S : St) (n : Nat) : St := goodBad (backF (S.trail.length - n) S)

theorem fold_fields (f : St → Int → St) (h : ∀ S n, (f S n).clauses = S.clauses ∧ (f S n).ids = S.ids ∧ (f S n).inn = S.inn ∧ (f S n).trail = S.trail ∧ (f S n).done = S.done ∧ (f S n).bad = S.bad ∧ (f S n).value = S.value ∧ (f S n).why = S.why) : ∀ (ns : List Int) (S : St), (ns.foldl f S).clauses = S.clauses ∧ (ns.foldl f S).ids = S.ids ∧ (ns.foldl f S).inn = S.inn ∧ (ns.foldl f S).trail = S.trail ∧ (ns.foldl f S).done = S.done ∧ (ns.foldl f S).bad = S.bad ∧ (ns.foldl f S).value = S.value ∧ (ns.foldl f S).why = S.why
  | [], S => ⟨rfl, rfl, rfl, rfl, rfl, rfl, rfl, rfl⟩
  | n :: t, S => by
    rw [List.foldl_cons]
    obtain ⟨a1, a2, a3, a4, a5, a6, a7, a8⟩ := fold_fields f h t (f S n)
    obtain ⟨b1, b2, b3, b4, b5, b6, b7, b8⟩ := h S n
    exact ⟨a1.trans b1, a2.trans b2, a3.trans b3, a4.trans b4, a5.trans b5, a6.trans b6, a7.trans b7, a8.trans b8⟩
theorem fold_downOn : ∀ (ns : List Int) (S : St), ns.Nodup → (∀ n ∈ ns, 0 ≤ n ∧ n < S.on.length) →
    (∀ m : Nat, (ns.foldl downOn S).on.getD m 0 = if (m : Int) ∈ ns then wrap64 (S.on.getD m 0 - 1) else S.on.getD m 0) ∧ (ns.foldl downOn S).opn = S.opn ∧ (ns.foldl downOn S).on.length = S.on.length
  | [], S, _, _ => ⟨fun m => by simp, rfl, rfl⟩
  | n :: t, S, hn, hr => by
    obtain ⟨h1, h2⟩ := List.nodup_cons.1 hn
    have hn0 := hr n (by simp)
    obtain ⟨g1, g2, g3⟩ := fold_downOn t (downOn S n) h2 (fun x hx => by have := hr x (by simp [hx]); simpa [downOn] using this)
    refine ⟨fun m => ?_, g2, by rw [List.foldl_cons, g3]; simp [downOn]⟩
    rw [List.foldl_cons, g1 m]
    have hg : (downOn S n).on.getD m 0 = if (m : Int) = n then wrap64 (S.on.getD m 0 - 1) else S.on.getD m 0 := by
      unfold downOn
      dsimp only
      by_cases e : (m : Int) = n
      · have em : n.toNat = m := by omega
        rw [if_pos e, em, List.getD_eq_getElem?_getD, List.getElem?_set_self (by omega)]; rfl
      · have em : n.toNat ≠ m := by omega
        rw [if_neg e, List.getD_eq_getElem?_getD, List.getElem?_set_ne em, ← List.getD_eq_getElem?_getD]
    rw [hg]
    by_cases e : (m : Int) = n
    · have : ¬ (m : Int) ∈ t := by rw [e]; exact h1
      rw [if_neg this, if_pos e, if_pos (by simp [e])]
    · rw [if_neg e]
      by_cases hm : (m : Int) ∈ t
      · rw [if_pos hm, if_pos (by simp [hm])]
      · rw [if_neg hm, if_neg (by simp [hm, e])]
theorem fold_upOpn : ∀ (ns : List Int) (S : St), ns.Nodup → (∀ n ∈ ns, 0 ≤ n ∧ n < S.opn.length) →
    (∀ m : Nat, (ns.foldl upOpn S).opn.getD m 0 = if (m : Int) ∈ ns then wrap64 (S.opn.getD m 0 + 1) else S.opn.getD m 0) ∧ (ns.foldl upOpn S).on = S.on ∧ (ns.foldl upOpn S).opn.length = S.opn.length
  | [], S, _, _ => ⟨fun m => by simp, rfl, rfl⟩
  | n :: t, S, hn, hr => by
    obtain ⟨h1, h2⟩ := List.nodup_cons.1 hn
    have hn0 := hr n (by simp)
    obtain ⟨g1, g2, g3⟩ := fold_upOpn t (upOpn S n) h2 (fun x hx => by have := hr x (by simp [hx]); simpa [upOpn] using this)
    refine ⟨fun m => ?_, g2, by rw [List.foldl_cons, g3]; simp [upOpn]⟩
    rw [List.foldl_cons, g1 m]
    have hg : (upOpn S n).opn.getD m 0 = if (m : Int) = n then wrap64 (S.opn.getD m 0 + 1) else S.opn.getD m 0 := by
      unfold upOpn
      dsimp only
      by_cases e : (m : Int) = n
      · have em : n.toNat = m := by omega
        rw [if_pos e, em, List.getD_eq_getElem?_getD, List.getElem?_set_self (by omega)]; rfl
      · have em : n.toNat ≠ m := by omega
        rw [if_neg e, List.getD_eq_getElem?_getD, List.getElem?_set_ne em, ← List.getD_eq_getElem?_getD]
    rw [hg]
    by_cases e : (m : Int) = n
    · have : ¬ (m : Int) ∈ t := by rw [e]; exact h1
      rw [if_neg this, if_pos e, if_pos (by simp [e])]
    · rw [if_neg e]
      by_cases hm : (m : Int) ∈ t
      · rw [if_pos hm, if_pos (by simp [hm])]
      · rw [if_neg hm, if_neg (by simp [hm, e])]
theorem downOn_fields (S : St) (n : Int) : (downOn S n).clauses = S.clauses ∧ (downOn S n).ids = S.ids ∧ (downOn S n).inn = S.inn ∧ (downOn S n).trail = S.trail ∧ (downOn S n).done = S.done ∧ (downOn S n).bad = S.bad ∧ (downOn S n).value = S.value ∧ (downOn S n).why = S.why := ⟨rfl, rfl, rfl, rfl, rfl, rfl, rfl, rfl⟩
theorem upOpn_fields (S : St) (n : Int) : (upOpn S n).clauses = S.clauses ∧ (upOpn S n).ids = S.ids ∧ (upOpn S n).inn = S.inn ∧ (upOpn S n).trail = S.trail ∧ (upOpn S n).done = S.done ∧ (upOpn S n).bad = S.bad ∧ (upOpn S n).value = S.value ∧ (upOpn S n).why = S.why := ⟨rfl, rfl, rfl, rfl, rfl, rfl, rfl, rfl⟩

theorem unSt_fields (S : St) : (unSt S).clauses = S.clauses ∧ (unSt S).ids = S.ids ∧ (unSt S).inn = S.inn ∧ (unSt S).trail = S.trail ∧ (unSt S).bad = S.bad ∧ (unSt S).value = S.value ∧ (unSt S).why = S.why ∧ (unSt S).done = if ((S.trail.length - 1 : Nat) : Int) < S.done then ((S.trail.length - 1 : Nat) : Int) else S.done := by
  unfold unSt
  split
  · obtain ⟨a1, a2, a3, a4, a5, a6, a7, a8⟩ := fold_fields upOpn upOpn_fields (inAt S (-(lastL S))) ((inAt S (lastL S)).foldl downOn (setDone S ((S.trail.length - 1 : Nat) : Int)))
    obtain ⟨b1, b2, b3, b4, b5, b6, b7, b8⟩ := fold_fields downOn downOn_fields (inAt S (lastL S)) (setDone S ((S.trail.length - 1 : Nat) : Int))
    exact ⟨a1.trans b1, a2.trans b2, a3.trans b3, a4.trans b4, a6.trans b6, a7.trans b7, a8.trans b8, a5.trans b5⟩
  · exact ⟨rfl, rfl, rfl, rfl, rfl, rfl, rfl, rfl⟩

theorem wrap_down1 {a : Nat} (h : a + 1 ≤ 4611686018427387905) : wrap64 (((a + 1 : Nat) : Int) - 1) = (a : Int) := by unfold wrap64; omega

theorem vl_clear {S : St} (h : Ok S) {l x : Int} (hl : fm l = true) (hx : fm x = true) (hk : S.ids.contains (lv l) = true) : vl (clearSt S l) x = if x = l ∨ x = -l then 0 else vl S x := by
  have hi : S.ids.idxOf (lv l) < S.value.length := by rw [h.lnv]; exact List.idxOf_lt_length_of_mem (by simpa using hk)
  unfold vl clearSt
  dsimp only
  by_cases he : lv x = lv l
  · rw [he, if_pos hk, if_pos (lv_eq hl hx he)]
    have hg : (S.value.set (S.ids.idxOf (lv l)) 0).getD (S.ids.idxOf (lv l)) 0 = 0 := by
      rw [List.getD_eq_getElem?_getD, List.getElem?_set_self hi]; rfl
    rw [hg]
    split <;> rfl
  · have hno : ¬ (x = l ∨ x = -l) := fun e => by
      rcases e with e | e
      · exact he (by rw [e])
      · exact he (by rw [e]; exact lv_neg hl)
    rw [if_neg hno]
    by_cases hkx : S.ids.contains (lv x) = true
    · rw [if_pos hkx, if_pos hkx]
      have hne : S.ids.idxOf (lv l) ≠ S.ids.idxOf (lv x) := by
        intro e
        have hmx : lv x ∈ S.ids := by simpa using hkx
        have hml : lv l ∈ S.ids := by simpa using hk
        have a := List.getElem_idxOf (List.idxOf_lt_length_of_mem hmx)
        have b := List.getElem_idxOf (List.idxOf_lt_length_of_mem hml)
        exact he (by rw [← a, ← b]; congr 1; exact e.symm)
      rw [List.getD_eq_getElem?_getD, List.getElem?_set_ne hne, ← List.getD_eq_getElem?_getD]
    · rw [if_neg hkx, if_neg hkx]

theorem filter_clear : ∀ (a : List Int) (n : Nat), n < a.length → a.getD n 0 ≠ 0 → ((a.set n 0).filter (· ≠ 0)).length + 1 = (a.filter (· ≠ 0)).length
  | [], n, h, _ => absurd h (by simp)
  | y :: t, 0, _, h0 => by
    have hy : y ≠ 0 := by simpa using h0
    rw [List.set_cons_zero, List.filter_cons_of_neg (by simp), List.filter_cons_of_pos (by simpa using hy)]
    rfl
  | y :: t, n + 1, h, h0 => by
    have ih := filter_clear t n (by simpa using h) (by simpa using h0)
    rw [List.set_cons_succ]
    by_cases hy : y ≠ 0
    · rw [List.filter_cons_of_pos (by simpa using hy), List.filter_cons_of_pos (by simpa using hy), List.length_cons, List.length_cons, ih]
    · rw [List.filter_cons_of_neg (by simpa using hy), List.filter_cons_of_neg (by simpa using hy), ih]

/-- A spread at rest or in its closing: its trail and numbers. -/
structure Held (cls : List (List Int)) (F : List Int) (S : St) : Prop where
  inv : Inv cls F S
  cnt : Cnt cls (S.trail.take S.done.toNat) S

set_option maxHeartbeats 1000000 in
theorem Held.back {cls : List (List Int)} {F : List Int} {S : St} (h : Held cls F S) (hnd : ∀ c ∈ cls, c.Nodup) (hlen : ∀ c ∈ cls, c.length ≤ 4611686018427387903) (hpos : 0 < S.trail.length) : Held cls F (backStep S) := by
  have hG := h.inv.good
  have hd0 := hG.dn
  obtain ⟨n, hn⟩ : ∃ n : Nat, S.trail.length = n + 1 := ⟨S.trail.length - 1, by omega⟩
  have hn1 : S.trail.length - 1 = n := by omega
  have hlast : S.trail.getD n 0 = lastL S := by unfold lastL; rw [hn1]
  have hlm : lastL S ∈ S.trail := by rw [← hlast, List.getD_eq_getElem?_getD, List.getElem?_eq_getElem (by omega)]; exact List.getElem_mem _
  have hfl := hG.tf _ hlm
  have hkl := hG.tk _ hlm
  have hkn : S.ids.contains (lv (-(lastL S))) = true := by rw [lv_neg hfl]; exact hkl
  have i1 := h.inv.inn _ hfl hkl
  have i2 := h.inv.inn _ (fm_neg hfl) hkn
  have hnb := not_before h.inv.nd (show n < S.trail.length by omega)
  have htk := take_one (show n < S.trail.length by omega)
  rw [hlast] at hnb htk
  have hfull : S.trail.take (n + 1) = S.trail := List.take_of_length_le (by omega)
  obtain ⟨u1, u2, u3, u4, u5, u6, u7, u8⟩ := unSt_fields S
  rw [hn1] at u8
  have hvl := (h.inv.tv _ hfl).1 hlm
  generalize hl : lastL S = l at *
  have hix : S.ids.idxOf (lv l) < S.value.length := by rw [hG.ok.lnv]; exact List.idxOf_lt_length_of_mem (by simpa using hkl)
  have hval : S.value.getD (S.ids.idxOf (lv l)) 0 ≠ 0 := by
    unfold vl at hvl
    rw [if_pos hkl] at hvl
    split at hvl <;> omega
  have hlo : S.opn.length = cls.length := by rw [hG.ok.lo, h.inv.cl]
  have hln : S.on.length = cls.length := by rw [hG.ok.ln, h.inv.cl]
  have ro : ∀ x, ∀ m ∈ occ cls x, 0 ≤ m ∧ m < (cls.length : Int) := fun x m hm => by have := (mem_occ cls x m).1 hm; exact ⟨this.1, this.2.1⟩
  -- the numbers
  have hcnt : Cnt cls ((S.trail.take n).take (unSt S).done.toNat) (unSt S) ∧ (unSt S).on.length = cls.length ∧ (unSt S).opn.length = cls.length := by
    by_cases hlt : (n : Int) < S.done
    · have hdn : S.done.toNat = n + 1 := by omega
      rw [u8, if_pos hlt, Int.toNat_natCast, List.take_take, Nat.min_self]
      have hc := h.cnt
      rw [hdn, htk] at hc
      have hun : unSt S = (occ cls (-l)).foldl upOpn ((occ cls l).foldl downOn (setDone S (n : Int))) := by
        unfold unSt
        rw [hn1, if_pos hlt, hl, i1, i2]
      obtain ⟨a1, a2, a3⟩ := fold_downOn (occ cls l) (setDone S (n : Int)) (occ_nodup _ _) (fun m hm => by have := ro l m hm; show 0 ≤ m ∧ m < (S.on.length : Int); omega)
      generalize hU : (occ cls l).foldl downOn (setDone S (n : Int)) = U at *
      obtain ⟨b1, b2, b3⟩ := fold_upOpn (occ cls (-l)) U (occ_nodup _ _) (fun m hm => by have := ro (-l) m hm; rw [a2]; show 0 ≤ m ∧ m < (S.opn.length : Int); omega)
      rw [← hun] at b1 b2 b3
      refine ⟨⟨fun m hm => ?_, fun m hm => ?_⟩, by rw [b2, a3]; exact hln, by rw [b3, a2]; exact hlo⟩
      · have hmem := getD_mem hm
        have h1 := hc.on m hm
        rw [b2, a1 m]
        show (if (m : Int) ∈ occ cls l then wrap64 (S.on.getD m 0 - 1) else S.on.getD m 0) = _
        rw [h1, posN_more (hnd _ hmem) hnb]
        have hle := posN_le (S.trail.take n) (cls.getD m [])
        have hle2 := hlen _ hmem
        have hiff : (m : Int) ∈ occ cls l ↔ l ∈ cls.getD m [] := by rw [mem_occ, Int.toNat_natCast]; exact ⟨fun h => h.2.2, fun h => ⟨by omega, by omega, h⟩⟩
        by_cases e : l ∈ cls.getD m []
        · rw [if_pos (hiff.2 e), if_pos e, wrap_down1 (by omega)]
        · rw [if_neg (fun h => e (hiff.1 h)), if_neg e]; rfl
      · have hmem := getD_mem hm
        have h1 := hc.opn m hm
        rw [b1 m, a2]
        show (if (m : Int) ∈ occ cls (-l) then wrap64 (S.opn.getD m 0 + 1) else S.opn.getD m 0) = _
        have hle := opnN_le (S.trail.take n) (cls.getD m [])
        have hle2 := hlen _ hmem
        have h2 := opnN_less (hnd _ hmem) hnb
        rw [h1]
        have hiff : (m : Int) ∈ occ cls (-l) ↔ -l ∈ cls.getD m [] := by rw [mem_occ, Int.toNat_natCast]; exact ⟨fun h => h.2.2, fun h => ⟨by omega, by omega, h⟩⟩
        by_cases e : -l ∈ cls.getD m []
        · rw [if_pos e] at h2
          rw [if_pos (hiff.2 e), wrap_up (by omega), h2]
        · rw [if_neg e] at h2
          rw [if_neg (fun h => e (hiff.1 h)), h2]; rfl
    · have hun : unSt S = S := by unfold unSt; rw [hn1, if_neg hlt]
      rw [hun, List.take_take, Nat.min_eq_left (by omega)]
      exact ⟨h.cnt, hln, hlo⟩
  obtain ⟨hc1, hc2, hc3⟩ := hcnt
  have hvc : ∀ x, fm x = true → vl (backStep S) x = if x = l ∨ x = -l then 0 else vl S x := fun x hx => by
    have e1 : vl (backStep S) x = vl (clearSt S l) x := by
      unfold backStep
      rw [hl]
      unfold vl cutSt clearSt
      dsimp only
      rw [u2, u6]
    rw [e1]
    exact vl_clear hG.ok hfl hx hkl
  have htr : (backStep S).trail = S.trail.take n := by
    unfold backStep cutSt clearSt; dsimp only; rw [u4, hn1]
  have hdone : (backStep S).done = (unSt S).done := rfl
  have hvalue : (backStep S).value = S.value.set (S.ids.idxOf (lv l)) 0 := by
    unfold backStep cutSt clearSt; dsimp only; rw [u2, u6, hl]
  have hids : (backStep S).ids = S.ids := by unfold backStep cutSt clearSt; dsimp only; exact u2
  have hinn : (backStep S).inn = S.inn := by unfold backStep cutSt clearSt; dsimp only; exact u3
  have hcls : (backStep S).clauses = S.clauses := by unfold backStep cutSt clearSt; dsimp only; exact u1
  have hwhy : (backStep S).why = S.why := by unfold backStep cutSt clearSt; dsimp only; exact u7
  have hbad : (backStep S).bad = S.bad := by unfold backStep cutSt clearSt; dsimp only; exact u5
  have hon : (backStep S).on = (unSt S).on := rfl
  have hop : (backStep S).opn = (unSt S).opn := rfl
  have hsub : ∀ x ∈ S.trail.take n, x ∈ S.trail := fun x hx => List.mem_of_mem_take hx
  have hok : Ok (backStep S) := by
    refine ⟨by rw [hids]; exact hG.ok.nd, by rw [hids]; exact hG.ok.rg, by rw [hvalue, hids, List.length_set]; exact hG.ok.lnv, by rw [hwhy, hids]; exact hG.ok.lw, by rw [hinn, hids]; exact hG.ok.li, ?_, ?_, by rw [hop, hcls, hc3, h.inv.cl], by rw [hon, hcls, hc2, h.inv.cl]⟩
    · rw [hvalue]
      intro x hx
      rcases List.mem_or_eq_of_mem_set hx with hx | hx
      · exact hG.ok.bv x hx
      · rw [hx]; omega
    · rw [htr, hvalue]
      have h1 := filter_clear S.value _ hix hval
      have h2 := hG.ok.tr
      rw [List.length_take]
      omega
  have hdn : (backStep S).done = if (n : Int) < S.done then (n : Int) else S.done := by rw [hdone, u8]
  have hgood : Good (backStep S) := by
    refine ⟨hok, by rw [htr, hids]; exact fun x hx => hG.tk x (hsub x hx), by rw [htr]; exact fun x hx => hG.tf x (hsub x hx), by rw [hcls]; exact hG.cf, by rw [hinn, hcls]; exact hG.ir, ?_⟩
    rw [hdn, htr, List.length_take]
    split <;> omega
  refine ⟨⟨hgood, by rw [hcls]; exact h.inv.cl, ?_, ?_, ?_, ?_, ?_, by rw [hbad]; exact h.inv.bad⟩, ?_⟩
  · intro c hc x hx
    rw [hids]; rw [hcls] at hc; exact h.inv.kn c hc x hx
  · intro x hx hk
    rw [hids] at hk
    have e1 : inAt (backStep S) x = inAt S x := by unfold inAt; rw [hids, hinn]
    rw [e1]; exact h.inv.inn x hx hk
  · intro x hx
    rw [htr, hvc x hx]
    by_cases e : x = l ∨ x = -l
    · rw [if_pos e]
      constructor
      · intro hm
        rcases e with e | e
        · rw [e] at hm; exact absurd hm hnb
        · have h1 := (h.inv.tv x hx).1 (hsub x hm)
          rw [e, vl_neg S hfl] at h1
          omega
      · intro h0; exact absurd h0 (by decide)
    · rw [if_neg e]
      rw [← h.inv.tv x hx]
      refine ⟨hsub x, fun hm => ?_⟩
      rw [← hfull, htk] at hm
      rcases List.mem_append.1 hm with hm | hm
      · exact hm
      · exact absurd (.inl (List.mem_singleton.1 hm)) e
  · rw [htr]; exact h.inv.nd.sublist (List.take_sublist _ _)
  · rw [htr]; exact fun x hx => h.inv.snd x (hsub x hx)
  · have e1 : (backStep S).trail.take (backStep S).done.toNat = (S.trail.take n).take (unSt S).done.toNat := by rw [htr, hdone]
    rw [e1]
    exact ⟨by rw [hon]; exact hc1.on, by rw [hop]; exact hc1.opn⟩

end Go.Proofs.Ythbccfgcemdgeaa.Spr
