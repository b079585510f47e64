/- UnitOrders as a plain statement: where the lists are not too long the law's plain function answers true. -/
import Derived.Test.YthbccfgcemdgeaaLawA
import Derived.Test.YthbccfgcemdgeaaP12
namespace Go.Proofs.Ythbccfgcemdgeaa.Pure
open Go.RowKit Go.Proofs.Ythbccfgcemdgeaa.P Go.Proofs.Ythbccfgcemdgeaa.Lit Go.Proofs.Ythbccfgcemdgeaa.Spr Go.Proofs.Ythbccfgcemdgeaa.Rf Go.Proofs.YthbccfgcemdgeaaW.PrintWords Go.Proofs.YthbccfgcemdgeaaW.PrintLast

/-- The same literals. -/
def Same (a b : List Int) : Prop := ∀ x, x ∈ a ↔ x ∈ b
/-- Close asks for the sets alone. -/
theorem close_same {v : Int} {cs g : List (List Int)} {F G : List Int} (h1 : ∀ c ∈ cs, ∃ c' ∈ g, Same c c') (h2 : ∀ c ∈ g, ∃ c' ∈ cs, Same c c') (h3 : Same F G) (hc : ∀ c ∈ cs, ∀ x ∈ c, fm x = true) (hF : ∀ x ∈ F, fm x = true) (ha : askedI v cs F = 0) (hb : askedI v g G = 0) : closeR v g G = closeR v cs F := by
  have hcg : ∀ c ∈ g, ∀ x ∈ c, fm x = true := fun c hcm x hx => by
    obtain ⟨c', hc', hs⟩ := h2 c hcm
    exact hc c' hc' x ((hs x).1 hx)
  have hG : ∀ x ∈ G, fm x = true := fun x hx => hF x ((h3 x).2 hx)
  have hud : ∀ l, UP cs F l ↔ UP g G l := fun l => ⟨fun h => h.mono h1 (fun x hx => (h3 x).1 hx), fun h => h.mono h2 (fun x hx => (h3 x).2 hx)⟩
  have hcd : Clash cs F ↔ Clash g G := ⟨fun h => h.mono h1 (fun x hx => (h3 x).1 hx), fun h => h.mono h2 (fun x hx => (h3 x).2 hx)⟩
  obtain ⟨p1, p2⟩ := closed_up cs F hF hc
  obtain ⟨q1, q2⟩ := closed_up g G hG hcg
  unfold closeR
  rw [ha, hb, if_pos rfl, if_pos rfl]
  by_cases hy : (closedSt cs F).2 = true
  · obtain ⟨_, _, hT, _, hn⟩ := p1 hy
    have hz : (closedSt g G).2 = true := by
      cases he : (closedSt g G).2 with
      | true => rfl
      | false => exact absurd (hcd.2 (q2 he)) hn
    obtain ⟨_, _, hU, _, _⟩ := q1 hz
    rw [if_pos hy, if_pos hz]
    congr 1
    refine rising_ext _ _ (tidy_rising _) (tidy_rising _) fun l => ?_
    rw [mem_tidy, mem_tidy, hT, hU, hud]
  · have hz : ¬ (closedSt g G).2 = true := fun h => (q1 h).2.2.2.2 (hcd.1 (p2 (Bool.eq_false_iff.2 hy)))
    rw [if_neg hy, if_neg hz]

theorem take_back {α : Type} {xs : List α} {n : Nat} (d : α) (h : n < xs.length) : (xs.take (n + 1)).reverse = xs.getD n d :: (xs.take n).reverse := by
  rw [List.take_succ_eq_append_getElem h, List.reverse_append, List.getD_eq_getElem?_getD, List.getElem?_eq_getElem h]; rfl

section
variable (F : List Int) (m : List Bool) (L : List Int) (b : Bool) (e v : Int) (cs : List (List Int))

/-- A clause turned round. -/
theorem ord_c (R : Bool) (fr tt kk : Int) (at' : Nat) (g : List (List Int)) (row : List Int) (ha : at' < cs.length) (hrow : cs.getD at' [] = row) (hl : row.length ≤ 1048576) : ∀ (n : Nat) (acc : List Int), n ≤ row.length → acc.length + n ≤ 1048576 →
    Ev (fun k => depotlaw06_UnitOrders.l1 k F m L b e fr tt kk (at' : Int) (acc ++ (row.take n).reverse) (-1) v cs v g) R → Ev (fun k => depotlaw06_UnitOrders.l1 k F m L b e fr tt kk (at' : Int) acc ((n : Int) - 1) v cs v g) R := by
  intro n
  induction n with
  | zero => intro acc _ _ h; simpa using h
  | succ n ih =>
    intro acc hn hal h
    have hlt : n < row.length := by omega
    have := ih (acc ++ [row.getD n 0]) (by omega) (by simp; omega) (by
      rw [take_back 0 hlt] at h
      rw [List.append_assoc]; exact h)
    refine Ev.step (fun k => ?_) this
    have e1 : ((n + 1 : Nat) : Int) - 1 = (n : Int) := by omega
    have e2 : wrap64 ((n : Int) - 1) = (n : Int) - 1 := by unfold wrap64; omega
    rw [e1]
    simp only [depotlaw06_UnitOrders.l1]
    rw [if_pos (by omega), if_pos (by omega), if_pos (by omega), if_pos (by omega), rdL_nat, hrow, if_pos (by omega), if_pos (by omega), rd_nat, e2]

/-- What of the clauses has been taken: those before fr and those from tt on. -/
structure Taken (fr tt : Nat) (g : List (List Int)) : Prop where
  sub : ∀ c ∈ g, ∃ c' ∈ cs, Same c c'
  all : ∀ i, i < cs.length → (i < fr ∨ tt ≤ i) → ∃ c ∈ g, Same (cs.getD i []) c
  len : g.length ≤ 1048576
  lens : ∀ c ∈ g, c.length ≤ 1048577

theorem ord_one (R : Bool) (hcl : ∀ c ∈ cs, c.length ≤ 1048576) (fr tt kk : Nat) (fr' tt' : Nat) (at' : Nat) (g : List (List Int)) (hk : kk < 1048576) (hg : Taken cs fr tt g) (hgl : g.length = kk) (hat : at' < cs.length) (hst : ∀ i, (i < fr' ∨ tt' ≤ i) → (i < fr ∨ tt ≤ i) ∨ i = at')
    (hnext : ∀ g', Taken cs fr' tt' g' → g'.length = kk + 1 → Ev (fun k => depotlaw06_UnitOrders.l0 k F m L b e (fr' : Int) (tt' : Int) ((kk + 1 : Nat) : Int) v cs v g') R) :
    Ev (fun k => depotlaw06_UnitOrders.j3 k F m L b e (fr' : Int) (tt' : Int) (kk : Int) (at' : Int) v cs v g) R := by
  have hmem := get_mem [] hat
  have hlen := hcl _ hmem
  have hwr : wrap64 (((cs.getD at' []).length : Int) - 1) = ((cs.getD at' []).length : Int) - 1 := by unfold wrap64; omega
  have take : ∀ c, Same (cs.getD at' []) c → c.length ≤ 1048577 → Taken cs fr' tt' (g ++ [c]) := fun c hs hcl2 => by
    refine ⟨fun x hx => ?_, fun i hi hio => ?_, by simp; omega, fun x hx => ?_⟩
    · rcases List.mem_append.1 hx with hx | hx
      · exact hg.sub x hx
      · rw [List.mem_singleton.1 hx]; exact ⟨_, hmem, fun y => (hs y).symm⟩
    · rcases hst i hio with h | h
      · obtain ⟨c2, h2, h3⟩ := hg.all i hi h
        exact ⟨c2, List.mem_append_left _ h2, h3⟩
      · rw [h]; exact ⟨c, by simp, hs⟩
    · rcases List.mem_append.1 hx with hx | hx
      · exact hg.lens x hx
      · rw [List.mem_singleton.1 hx]; exact hcl2
  refine Ev.step (fun k => by
    simp only [depotlaw06_UnitOrders.j3]
    rw [if_pos (by omega), if_pos (by omega), rdL_nat, hwr]) (ord_c F m L b e v cs R fr' tt' kk at' g _ hat rfl hlen _ [] (Nat.le_refl _) (by simpa using hlen) ?_)
  rw [List.take_length, List.nil_append]
  generalize hr : (cs.getD at' []).reverse = r
  have hsr : Same (cs.getD at' []) r := fun x => by rw [← hr, List.mem_reverse]
  have hrl : r.length ≤ 1048576 := by rw [← hr, List.length_reverse]; exact hlen
  by_cases h0 : (r.length : Int) > 0
  · have hin : rd r 0 ∈ r := by
      cases r with
      | nil => simp at h0
      | cons a t => simp [rd]
    have hs2 : Same (cs.getD at' []) (r ++ [rd r 0]) := fun x => by
      rw [List.mem_append, List.mem_singleton, hsr x]
      exact ⟨.inl, fun h => h.elim id (fun h => by rw [h]; exact hin)⟩
    refine Ev.step (fun k => ?_) (hnext _ (take _ hs2 (by simp; omega)) (by simp; omega))
    simp only [depotlaw06_UnitOrders.l1]
    rw [if_neg (by omega), if_pos h0, if_pos (by omega), if_pos (by omega), if_pos (by omega), wrap_nat (n := kk) (by omega)]
  · refine Ev.step (fun k => ?_) (hnext _ (take _ hsr (by omega)) (by simp; omega))
    simp only [depotlaw06_UnitOrders.l1]
    rw [if_neg (by omega), if_neg h0, if_pos (by omega), wrap_nat (n := kk) (by omega)]

theorem ord_cs (R : Bool) (hcs : cs.length ≤ 1048575) (hcl : ∀ c ∈ cs, c.length ≤ 1048576)
    (hend : ∀ g, Taken cs cs.length cs.length g → g.length ≤ 1048575 → Ev (fun k => if (cs.length : Int) > 0 then (if 0 < (cs.length : Int) then ((depotref00_CopyInts.f k (rd_L1 cs 0)).bind fun t282 => (if g.length < 5864062014805 then (depotlaw06_UnitOrders.j5 k F L b e v (g ++ [t282])) else (none))) else (none)) else (depotlaw06_UnitOrders.j5 k F L b e v g)) R) : ∀ (d fr tt kk : Nat) (g : List (List Int)), tt - fr = d → fr ≤ tt → tt ≤ cs.length → kk + d = cs.length → Taken cs fr tt g → g.length = kk →
    Ev (fun k => depotlaw06_UnitOrders.l0 k F m L b e (fr : Int) (tt : Int) (kk : Int) v cs v g) R := by
  intro d
  induction d with
  | zero =>
    intro fr tt kk g hd hf ht hk hg hgl
    have he : fr = tt := by omega
    refine Ev.step (fun k => ?_) (hend g ⟨hg.sub, fun i hi _ => hg.all i hi (by omega), hg.len, hg.lens⟩ (by omega))
    simp only [depotlaw06_UnitOrders.l0]
    rw [if_neg (show ¬ ((fr : Int) < (tt : Int)) by omega)]
  | succ d ih =>
    intro fr tt kk g hd hf ht hk hg hgl
    have go : ∀ s : Bool, Ev (fun k => depotlaw06_UnitOrders.j2 k F m L b e (fr : Int) (tt : Int) (kk : Int) (fr : Int) s v cs v g) R := by
      intro s
      cases s with
      | true =>
        have e1 : wrap64 ((tt : Int) - 1) = ((tt - 1 : Nat) : Int) := by unfold wrap64; omega
        refine Ev.step (fun k => by simp only [depotlaw06_UnitOrders.j2]; rw [if_pos trivial, e1]) (ord_one F m L b e v cs R hcl fr tt kk fr (tt - 1) (tt - 1) g (by omega) hg hgl (by omega) (fun i hi => by omega) ?_)
        intro g' h1 h2
        exact ih fr (tt - 1) (kk + 1) g' (by omega) (by omega) (by omega) (by omega) h1 h2
      | false =>
        refine Ev.step (fun k => by simp only [depotlaw06_UnitOrders.j2]; rw [if_neg (by decide), wrap_nat (n := fr) (by omega)]) (ord_one F m L b e v cs R hcl fr tt kk (fr + 1) tt fr g (by omega) hg hgl (by omega) (fun i hi => by omega) ?_)
        intro g' h1 h2
        exact ih (fr + 1) tt (kk + 1) g' (by omega) (by omega) (by omega) (by omega) h1 h2
    by_cases hs : (kk : Int) < (m.length : Int)
    · refine Ev.step (fun k => ?_) (go (rdOf false m (kk : Int)))
      simp only [depotlaw06_UnitOrders.l0]
      rw [if_pos (show (fr : Int) < (tt : Int) by omega), if_pos hs, if_pos (by omega)]
    · refine Ev.step (fun k => ?_) (go false)
      simp only [depotlaw06_UnitOrders.l0]
      rw [if_pos (show (fr : Int) < (tt : Int) by omega), if_neg hs]

/-- The facts turned round, each twice. -/
theorem ord_f (R : Bool) (g : List (List Int)) (hF : F.length ≤ 1048576)
    (hend : ∀ G, Same F G → G.length ≤ 2097152 → Ev (fun k => (unit_Close.f v g G).bind fun bt296 => (if e = 0 then (if bt296.2.2 = 0 then (if (b == bt296.2.1) = true then ((depotref00_SameInts.f k L bt296.1).bind fun t301 => (if t301 = true then ((depotlaw06_awake.f k).bind fun t302 => (some t302)) else (some false))) else (some false)) else (some false)) else (some false))) R) : ∀ (n : Nat) (acc : List Int), n ≤ F.length → acc.length + 2 * n ≤ 2097152 → (∀ x, x ∈ F ↔ x ∈ acc ∨ x ∈ F.take n) →
    Ev (fun k => depotlaw06_UnitOrders.l2 k F L b e acc ((n : Int) - 1) v g) R := by
  intro n
  induction n with
  | zero =>
    intro acc hn ha hs
    refine Ev.step (fun k => ?_) (hend acc (fun x => by rw [hs x]; simp) (by omega))
    simp only [depotlaw06_UnitOrders.l2]
    rw [if_neg (by omega)]
  | succ n ih =>
    intro acc hn ha hs
    have hlt : n < F.length := by omega
    have e1 : ((n + 1 : Nat) : Int) - 1 = (n : Int) := by omega
    have e2 : wrap64 ((n : Int) - 1) = (n : Int) - 1 := by unfold wrap64; omega
    refine Ev.step (fun k => ?_) (ih (acc ++ [F.getD n 0, F.getD n 0]) (by omega) (by simp; omega) (fun x => by
      rw [hs x, take_one hlt, List.mem_append, List.mem_append]
      simp only [List.mem_cons, List.not_mem_nil, or_false]
      constructor
      · rintro (h | h | h)
        · exact .inl (.inl h)
        · exact .inr h
        · exact .inl (.inr (.inl h))
      · rintro ((h | h | h) | h)
        · exact .inl h
        · exact .inr (.inr h)
        · exact .inr (.inr h)
        · exact .inr (.inl h)))
    rw [e1]
    simp only [depotlaw06_UnitOrders.l2]
    rw [if_pos (by omega), if_pos (by omega), if_pos (by omega), Option.bind_some, rd_nat, if_pos (by simp; omega), e2]
end

theorem UnitOrders (v : Int) (cs : List (List Int)) (F : List Int) (m : List Bool) (hcs : cs.length ≤ 1048575) (hcl : ∀ x ∈ cs, x.length ≤ 1048575) (hFl : F.length ≤ 1048575) : ∃ k, depotlaw06_UnitOrders.f k v cs F m = some true := by
  have h83 : ∀ x ∈ cs, x.length < 9223372036854775807 := fun x hx => by have := hcl x hx; omega
  have hfit : Fits cs F := ⟨by omega, fun x hx => by have := hcl x hx; omega, by omega⟩
  refine Ev.rounds ?_
  unfold depotlaw06_UnitOrders.f
  refine Ev.bind (copyFormula v cs (by omega) (fun x hx => by have := hcl x hx; omega)) (Ev.bind (copyInts F (by omega)) ?_)
  refine Ev.bind (a := closeR v cs F) (Ev.congr (fun k => closeI v hfit) (Ev.now _)) ?_
  refine Ev.bind (shaped06 v cs (by omega) h83) ?_
  have hwf : F.all (win 1048576) = F.all fm := by
    have : win 1048576 = fm := funext fun x => by
      rw [win_fm (by omega)]
      by_cases h : fm x = true
      · have h1 := fm_true h
        rw [h, Bool.true_and, lv_of' h]
        refine decide_eq_true ?_
        split <;> omega
      · rw [Bool.eq_false_iff.2 h]; rfl
    rw [this]
  have hbad : askedI v cs F = 1 → Ev (fun k => depotlaw06_UnitOrders.j0 k F m (closeR v cs F).1 (closeR v cs F).2.1 (closeR v cs F).2.2 true v cs) true := by
    intro ha
    have hcr : closeR v cs F = ([], false, 1) := by unfold closeR; rw [ha, if_neg (by decide)]
    rw [hcr]
    refine Ev.step (fun k => ?_) (Ev.bind awake06 (f := fun _ t => some t) (Ev.now _))
    simp only [depotlaw06_UnitOrders.j0]
    rw [if_pos trivial, if_pos trivial, if_neg (by decide), if_pos (by decide)]
  by_cases hs : formedB v cs = true
  · refine Ev.congr (fun k => if_pos hs) (Ev.bind (within06 F 1048576 (by omega) (by omega) (by omega)) ?_)
    rw [hwf]
    by_cases hF : F.all fm = true
    · rw [hF]
      have ha : askedI v cs F = 0 := by unfold askedI; rw [hs, hF]; rfl
      have hcw := formed_win hs
      have hr := formed_range hs
      have hfmF := List.all_eq_true.1 hF
      have hfmC : ∀ c ∈ cs, ∀ x ∈ c, fm x = true := fun c hc x hx => by have := hcw c hc x hx; rw [win_fm hr.2, Bool.and_eq_true] at this; exact this.1
      have hfin : ∀ g, (∀ c ∈ cs, ∃ c' ∈ g, Same c c') → (∀ c ∈ g, ∃ c' ∈ cs, Same c c') → g.length ≤ 1048576 → (∀ c ∈ g, c.length ≤ 1048577) → Ev (fun k => depotlaw06_UnitOrders.j5 k F (closeR v cs F).1 (closeR v cs F).2.1 (closeR v cs F).2.2 v g) true := by
        intro g h1 h2 h3 h4
        have hwr : wrap64 ((F.length : Int) - 1) = (F.length : Int) - 1 := by unfold wrap64; omega
        refine Ev.step (fun k => by simp only [depotlaw06_UnitOrders.j5]; rw [hwr]) (ord_f F _ _ _ v true g (by omega) ?_ F.length [] (Nat.le_refl _) (by simp; omega) (fun x => by rw [List.take_length]; simp))
        intro G hG hGl
        have hcl2 := close_same (v := v) h1 h2 hG hfmC hfmF ha (by
          unfold askedI
          have e1 : formedB v g = true := by
            have hs2 := hs
            unfold formedB at hs2 ⊢
            simp only [Bool.and_eq_true] at hs2 ⊢
            refine ⟨hs2.1, List.all_eq_true.2 fun c hc => ?_⟩
            obtain ⟨c', hc', hsm⟩ := h2 c hc
            have := List.all_eq_true.1 hs2.2 c' hc'
            unfold withinB at this ⊢
            simp only [Bool.and_eq_true, List.all_eq_true] at this ⊢
            exact ⟨fun x hx => this.1 x ((hsm x).1 hx), fun x hx => this.2 x ((hsm x).1 hx)⟩
          have e2 : G.all fm = true := List.all_eq_true.2 fun x hx => hfmF x ((hG x).2 hx)
          rw [e1, e2]; rfl)
        have hz : (closeR v cs F).2.2 = 0 := by
          unfold closeR
          rw [ha, if_pos rfl]
          split <;> rfl
        refine Ev.bind (a := closeR v cs F) (Ev.congr (fun k => by rw [closeI v (show Fits g G from ⟨by omega, fun x hx => by have := h4 x hx; omega, by omega⟩), hcl2]) (Ev.now _)) ?_
        refine Ev.congr (fun k => by rw [if_pos hz, if_pos hz, if_pos (beq_self_eq_true _)]) ?_
        exact Ev.bind (sameInts (closeR v cs F).1 (by have := close_len v cs F; omega)) (Ev.congr (fun k => if_pos rfl) (Ev.bind awake06 (Ev.now _)))
      refine Ev.step (fun k => by simp only [depotlaw06_UnitOrders.j0]; rw [if_neg (by decide)]; rfl) (show Ev (fun k => depotlaw06_UnitOrders.l0 k F m (closeR v cs F).1 (closeR v cs F).2.1 (closeR v cs F).2.2 ((0 : Nat) : Int) (cs.length : Int) ((0 : Nat) : Int) v cs v []) true from ?_)
      refine ord_cs F m _ _ _ v cs true hcs (fun c hc => by have := hcl c hc; omega) ?_ _ 0 cs.length 0 [] rfl (by omega) (Nat.le_refl _) (by omega) ⟨by simp, fun i hi h => by omega, by simp, by simp⟩ rfl
      intro g hg hgl
      have hall : ∀ c ∈ cs, ∃ c' ∈ g, Same c c' := fun c hc => by
        obtain ⟨i, hi, he⟩ := List.getElem_of_mem hc
        have := hg.all i hi (.inl hi)
        rw [List.getD_eq_getElem?_getD, List.getElem?_eq_getElem hi, Option.getD_some, he] at this
        exact this
      by_cases h0 : (cs.length : Int) > 0
      · have hm0 := get_mem (xs := cs) (n := 0) [] (by omega)
        refine Ev.congr (fun k => by rw [if_pos h0, if_pos (by omega), show rd_L1 cs 0 = cs.getD 0 [] from rdL_nat cs 0]) (Ev.bind (copyInts (cs.getD 0 []) (by have := hcl _ hm0; omega)) (f := fun k t282 => if g.length < 5864062014805 then depotlaw06_UnitOrders.j5 k F (closeR v cs F).1 (closeR v cs F).2.1 (closeR v cs F).2.2 v (g ++ [t282]) else none) ?_)
        refine Ev.congr (fun k => if_pos (by omega)) (hfin _ (fun c hc => ?_) (fun c hc => ?_) (by simp; omega) (fun c hc => ?_))
        · obtain ⟨c', h1, h2⟩ := hall c hc
          exact ⟨c', List.mem_append_left _ h1, h2⟩
        · rcases List.mem_append.1 hc with hc | hc
          · exact hg.sub c hc
          · rw [List.mem_singleton.1 hc]; exact ⟨_, hm0, fun _ => Iff.rfl⟩
        · rcases List.mem_append.1 hc with hc | hc
          · exact hg.lens c hc
          · rw [List.mem_singleton.1 hc]; have := hcl _ hm0; omega
      · exact Ev.congr (fun k => if_neg h0) (hfin g hall hg.sub hg.len hg.lens)
    · rw [Bool.eq_false_iff.2 hF]
      exact hbad (by unfold askedI; rw [hs, Bool.eq_false_iff.2 hF]; rfl)
  · exact Ev.congr (fun k => if_neg hs) (hbad (by unfold askedI; rw [Bool.eq_false_iff.2 hs]; rfl))

end Go.Proofs.Ythbccfgcemdgeaa.Pure
