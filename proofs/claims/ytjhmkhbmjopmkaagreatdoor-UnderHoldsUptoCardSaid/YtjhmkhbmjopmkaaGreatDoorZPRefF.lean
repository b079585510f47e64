/- Part of the proof of UnderHolds: what the law uses of the text RefF. -/
import Derived.Test.YtjhmkhbmjopmkaaGreatDoorZPRefA
import Derived.Test.YtjhmkhbmjopmkaaGreatDoorZPJUpA
namespace Go.Proofs.YtjhmkhbmjopmkaaGreatDoor.Rf
open Go.RowKit Go.Proofs.YtjhmkhbmjopmkaaGreatDoor.P Go.Proofs.YtjhmkhbmjopmkaaGreatDoor.Lit Go.Proofs.YtjhmkhbmjopmkaaGreatDoor.Spr Go.Proofs.YtjhmkhbmjopmkaaGreatDoorW.PrintWords Go.Proofs.YtjhmkhbmjopmkaaGreatDoorW.PrintLast

theorem has01_l (l : List Int) (x : Int) (hl : l.length < 9223372036854775807) : ∀ (d n : Nat), l.length - n = d → n ≤ l.length → Ev (fun k => depotref01_Has.l0 k l x (n : Int)) ((l.drop n).contains x) := by
  intro d
  induction d with
  | zero =>
    intro n hd hn
    have : l.drop n = [] := List.drop_eq_nil_of_le (by omega)
    rw [this]
    refine Ev.step (f := fun _ => some false) (fun k => ?_) (Ev.now _)
    simp only [depotref01_Has.l0]
    rw [if_neg (by omega)]
  | succ d ih =>
    intro n hd hn
    have hlt : n < l.length := by omega
    rw [drop_get 0 hlt, List.contains_cons]
    by_cases hf : l.getD n 0 = x
    · have he : (x == l.getD n 0) = true := by rw [hf]; exact beq_self_eq_true _
      rw [he, Bool.true_or]
      refine Ev.step (f := fun _ => some true) (fun k => ?_) (Ev.now _)
      simp only [depotref01_Has.l0]
      rw [if_pos (by omega), if_pos (by omega), rd_nat, if_pos hf]
    · have he : (x == l.getD n 0) = false := by simpa using fun h => hf h.symm
      rw [he, Bool.false_or]
      refine Ev.step (fun k => ?_) (ih (n + 1) (by omega) (by omega))
      simp only [depotref01_Has.l0]
      rw [if_pos (by omega), if_pos (by omega), rd_nat, if_neg hf, wrap_nat (by omega)]
theorem has01 (l : List Int) (x : Int) (hl : l.length < 9223372036854775807) : Ev (fun k => depotref01_Has.f k l x) (hasB l x) := by
  unfold depotref01_Has.f hasB
  by_cases h : fm x = true
  · rw [h, Bool.true_and]
    refine Ev.congr (fun k => by rw [formed01, h, Option.bind_some, if_pos rfl]) ?_
    have := has01_l l x hl _ 0 rfl (by omega)
    simpa using this
  · rw [Bool.eq_false_iff.2 h, Bool.false_and]
    exact Ev.congr (fun k => by rw [formed01, Bool.eq_false_iff.2 h, Option.bind_some, if_neg (by decide)]) (Ev.now _)
theorem index01 (a : Int) (h : fm a = true) : depotref01_Index.f a = some (ix a) := by
  obtain ⟨h1, h2, h3⟩ := fm_true h
  unfold depotref01_Index.f
  rw [formed01, h, Option.bind_some, if_pos rfl]
  have w0 : ∀ x : Int, -9223372036854775808 ≤ x → x < 9223372036854775808 → wrap64 x = x := fun x h1 h2 => by unfold wrap64; omega
  unfold ix
  rw [if_pos h]
  split
  · rw [w0 ((-2) * a) (by omega) (by omega), w0 _ (by omega) (by omega)]; congr 1; omega
  · rw [w0 (2 * a) (by omega) (by omega), w0 _ (by omega) (by omega)]

def mgF : Nat → List Int → List Int → List Int
  | 0, _, _ => []
  | _ + 1, [], [] => []
  | d + 1, [], y :: b => y :: mgF d [] b
  | d + 1, x :: a, [] => x :: mgF d a []
  | d + 1, x :: a, y :: b => if ix x < ix y then x :: mgF d a (y :: b) else if ix y < ix x then y :: mgF d (x :: a) b else x :: mgF d a b
theorem mg_mem : ∀ (d : Nat) (a b : List Int), (∀ z ∈ a, fm z = true) → (∀ z ∈ b, fm z = true) → a.length + b.length ≤ d → ∀ y, y ∈ mgF d a b ↔ y ∈ a ∨ y ∈ b
  | 0, a, b, _, _, h, y => by
    obtain rfl : a = [] := List.eq_nil_of_length_eq_zero (by omega)
    obtain rfl : b = [] := List.eq_nil_of_length_eq_zero (by omega)
    simp [mgF]
  | d + 1, [], [], _, _, _, y => by simp [mgF]
  | d + 1, [], z :: b, ha, hb, h, y => by
    have ih := mg_mem d [] b ha (fun z hz => hb z (by simp [hz])) (by simp at h ⊢; omega) y
    simp only [mgF, List.mem_cons, ih]
    simp
  | d + 1, x :: a, [], ha, hb, h, y => by
    have ih := mg_mem d a [] (fun z hz => ha z (by simp [hz])) hb (by simp at h ⊢; omega) y
    simp only [mgF, List.mem_cons, ih]
    simp
  | d + 1, x :: a, z :: b, ha, hb, h, y => by
    have i1 := mg_mem d a (z :: b) (fun z hz => ha z (by simp [hz])) hb (by simp at h ⊢; omega) y
    have i2 := mg_mem d (x :: a) b ha (fun z hz => hb z (by simp [hz])) (by simp at h ⊢; omega) y
    have i3 := mg_mem d a b (fun z hz => ha z (by simp [hz])) (fun z hz => hb z (by simp [hz])) (by simp at h ⊢; omega) y
    simp only [mgF]
    split
    · rw [List.mem_cons, i1, List.mem_cons, List.mem_cons]
      simp only [or_assoc]
    · split
      · rw [List.mem_cons, i2, List.mem_cons, List.mem_cons]
        constructor
        · rintro (h | (h | h) | h)
          · exact .inr (.inl h)
          · exact .inl (.inl h)
          · exact .inl (.inr h)
          · exact .inr (.inr h)
        · rintro ((h | h) | h | h)
          · exact .inr (.inl (.inl h))
          · exact .inr (.inl (.inr h))
          · exact .inl h
          · exact .inr (.inr h)
      · have he : x = z := ix_inj (ha x (by simp)) (hb z (by simp)) (by omega)
        rw [List.mem_cons, i3, List.mem_cons, List.mem_cons]
        subst he
        constructor
        · rintro (h | h | h)
          · exact .inl (.inl h)
          · exact .inl (.inr h)
          · exact .inr (.inr h)
        · rintro ((h | h) | h | h)
          · exact .inl h
          · exact .inr (.inl h)
          · exact .inl h
          · exact .inr (.inr h)
theorem mg_rising : ∀ (d : Nat) (a b : List Int), (∀ z ∈ a, fm z = true) → (∀ z ∈ b, fm z = true) → a.length + b.length ≤ d → Rising a → Rising b → Rising (mgF d a b)
  | 0, _, _, _, _, _, _, _ => List.Pairwise.nil
  | d + 1, [], [], _, _, _, _, _ => List.Pairwise.nil
  | d + 1, [], z :: b, ha, hb, h, hra, hrb => by
    obtain ⟨r1, r2⟩ := List.pairwise_cons.1 hrb
    refine List.pairwise_cons.2 ⟨fun y hy => ?_, mg_rising d [] b ha (fun z hz => hb z (by simp [hz])) (by simp at h ⊢; omega) hra r2⟩
    rcases (mg_mem d [] b ha (fun z hz => hb z (by simp [hz])) (by simp at h ⊢; omega) y).1 hy with h | h
    · cases h
    · exact r1 y h
  | d + 1, x :: a, [], ha, hb, h, hra, hrb => by
    obtain ⟨r1, r2⟩ := List.pairwise_cons.1 hra
    refine List.pairwise_cons.2 ⟨fun y hy => ?_, mg_rising d a [] (fun z hz => ha z (by simp [hz])) hb (by simp at h ⊢; omega) r2 hrb⟩
    rcases (mg_mem d a [] (fun z hz => ha z (by simp [hz])) hb (by simp at h ⊢; omega) y).1 hy with h | h
    · exact r1 y h
    · cases h
  | d + 1, x :: a, z :: b, ha, hb, h, hra, hrb => by
    obtain ⟨r1, r2⟩ := List.pairwise_cons.1 hra
    obtain ⟨s1, s2⟩ := List.pairwise_cons.1 hrb
    have ha' : ∀ y ∈ a, fm y = true := fun z hz => ha z (by simp [hz])
    have hb' : ∀ y ∈ b, fm y = true := fun z hz => hb z (by simp [hz])
    simp only [mgF]
    split
    · rename_i hlt
      refine List.pairwise_cons.2 ⟨fun y hy => ?_, mg_rising d a (z :: b) ha' hb (by simp at h ⊢; omega) r2 hrb⟩
      rcases (mg_mem d a (z :: b) ha' hb (by simp at h ⊢; omega) y).1 hy with h | h
      · exact r1 y h
      · rcases List.mem_cons.1 h with h | h
        · rw [h]; exact hlt
        · have := s1 y h; omega
    · split
      · rename_i h1 hlt
        refine List.pairwise_cons.2 ⟨fun y hy => ?_, mg_rising d (x :: a) b ha hb' (by simp at h ⊢; omega) hra s2⟩
        rcases (mg_mem d (x :: a) b ha hb' (by simp at h ⊢; omega) y).1 hy with h | h
        · rcases List.mem_cons.1 h with h | h
          · rw [h]; exact hlt
          · have := r1 y h; omega
        · exact s1 y h
      · rename_i h1 h2
        refine List.pairwise_cons.2 ⟨fun y hy => ?_, mg_rising d a b ha' hb' (by simp at h ⊢; omega) r2 s2⟩
        rcases (mg_mem d a b ha' hb' (by simp at h ⊢; omega) y).1 hy with h | h
        · exact r1 y h
        · have := s1 y h; omega
theorem fm_tidy (c : List Int) : ∀ z ∈ tidyL c, fm z = true := fun z hz => ((mem_tidy c z).1 hz).2
theorem mg_tidy (a b : List Int) (d : Nat) (h : (tidyL a).length + (tidyL b).length ≤ d) : mgF d (tidyL a) (tidyL b) = tidyL (a ++ b) := by
  refine rising_ext _ _ (mg_rising d _ _ (fm_tidy a) (fm_tidy b) h (tidy_rising a) (tidy_rising b)) (tidy_rising _) fun y => ?_
  rw [mg_mem d _ _ (fm_tidy a) (fm_tidy b) h, mem_tidy, mem_tidy, mem_tidy, List.mem_append]
  exact ⟨fun h => by rcases h with h | h; exact ⟨.inl h.1, h.2⟩; exact ⟨.inr h.1, h.2⟩, fun h => by rcases h.1 with e | e; exact .inl ⟨e, h.2⟩; exact .inr ⟨e, h.2⟩⟩

set_option maxHeartbeats 1000000 in
theorem merged_l (a b : List Int) (ha : ∀ z ∈ a, fm z = true) (hb : ∀ z ∈ b, fm z = true) (hl : a.length + b.length ≤ 17592186044416) : ∀ (d i j : Nat) (acc : List Int), (a.length - i) + (b.length - j) ≤ d → i ≤ a.length → j ≤ b.length → acc.length ≤ i + j →
    Ev (fun k => depotref01_merged.l0 k a b acc (i : Int) (j : Int)) (acc ++ mgF d (a.drop i) (b.drop j)) := by
  intro d
  induction d with
  | zero =>
    intro i j acc hd hi hj hacc
    refine Ev.step (f := fun k => depotref01_merged.j1 k a b acc (i : Int) (j : Int) false) (fun k => ?_) (Ev.step (f := fun _ => some acc) (fun k => ?_) (by simp only [mgF, List.append_nil]; exact Ev.now _))
    · simp only [depotref01_merged.l0]
      rw [if_neg (by omega), decide_eq_false (by omega)]
    · simp only [depotref01_merged.j1]
      rw [if_neg (by decide)]
  | succ d ih =>
    intro i j acc hd hi hj hacc
    by_cases h1 : i < a.length
    · have f1 := ha _ (get_mem 0 h1)
      rw [drop_get 0 h1]
      refine Ev.step (f := fun k => depotref01_merged.j1 k a b acc (i : Int) (j : Int) true) (fun k => by simp only [depotref01_merged.l0]; rw [if_pos (by omega)]) ?_
      by_cases h2 : j < b.length
      · have f2 := hb _ (get_mem 0 h2)
        rw [drop_get 0 h2]
        refine Ev.step (f := fun k => depotref01_merged.j2 k a b acc (i : Int) (j : Int) (decide (ix (a.getD i 0) < ix (b.getD j 0)))) (fun k => ?_) ?_
        · simp only [depotref01_merged.j1]
          rw [if_pos trivial, if_neg (by omega), if_pos (by omega), if_pos (by omega), rd_nat, index01 _ f1, Option.bind_some, if_pos (by omega), if_pos (by omega), rd_nat, index01 _ f2, Option.bind_some]
        · by_cases h3 : ix (a.getD i 0) < ix (b.getD j 0)
          · have e := ih (i + 1) j (acc ++ [a.getD i 0]) (by omega) (by omega) hj (by simp; omega)
            simp only [mgF]
            rw [if_pos h3, decide_eq_true h3]
            rw [List.append_assoc, List.singleton_append, drop_get 0 h2] at e
            refine Ev.step (fun k => ?_) e
            simp only [depotref01_merged.j2]
            rw [if_pos trivial, if_pos (by omega), if_pos (by omega), if_pos (by omega), rd_nat, wrap_nat (by omega)]
          · simp only [mgF]
            rw [if_neg h3, decide_eq_false h3]
            by_cases h4 : ix (b.getD j 0) < ix (a.getD i 0)
            · have e := ih i (j + 1) (acc ++ [b.getD j 0]) (by omega) hi (by omega) (by simp; omega)
              rw [if_pos h4]
              rw [List.append_assoc, List.singleton_append, drop_get 0 h1] at e
              refine Ev.step (fun k => ?_) e
              simp only [depotref01_merged.j2]
              rw [if_neg (by decide), if_neg (by omega), if_pos (by omega), if_pos (by omega), rd_nat, index01 _ f2, Option.bind_some, if_pos (by omega), if_pos (by omega), rd_nat, index01 _ f1, Option.bind_some, if_pos h4, if_pos (by omega), wrap_nat (by omega)]
            · have e := ih (i + 1) (j + 1) (acc ++ [a.getD i 0]) (by omega) (by omega) (by omega) (by simp; omega)
              rw [if_neg h4]
              rw [List.append_assoc, List.singleton_append] at e
              refine Ev.step (fun k => ?_) e
              simp only [depotref01_merged.j2]
              rw [if_neg (by decide), if_neg (by omega), if_pos (by omega), if_pos (by omega), rd_nat, index01 _ f2, Option.bind_some, if_pos (by omega), if_pos (by omega), rd_nat, index01 _ f1, Option.bind_some, if_neg h4, if_pos (by omega), wrap_nat (by omega), wrap_nat (by omega)]
      · have hnil : b.drop j = [] := List.drop_eq_nil_of_le (by omega)
        have e := ih (i + 1) j (acc ++ [a.getD i 0]) (by omega) (by omega) hj (by simp; omega)
        rw [hnil, List.append_assoc, List.singleton_append] at e
        rw [hnil]
        simp only [mgF]
        refine Ev.step (f := fun k => depotref01_merged.j2 k a b acc (i : Int) (j : Int) true) (fun k => ?_) (Ev.step (fun k => ?_) e)
        · simp only [depotref01_merged.j1]
          rw [if_pos trivial, if_pos (by omega)]
        · simp only [depotref01_merged.j2]
          rw [if_pos trivial, if_pos (by omega), if_pos (by omega), if_pos (by omega), rd_nat, wrap_nat (by omega)]
    · have hnil : a.drop i = [] := List.drop_eq_nil_of_le (by omega)
      by_cases h2 : j < b.length
      · have e := ih i (j + 1) (acc ++ [b.getD j 0]) (by omega) hi (by omega) (by simp; omega)
        rw [hnil, List.append_assoc, List.singleton_append] at e
        rw [hnil, drop_get 0 h2]
        simp only [mgF]
        refine Ev.step (f := fun k => depotref01_merged.j1 k a b acc (i : Int) (j : Int) true) (fun k => ?_) (Ev.step (f := fun k => depotref01_merged.j2 k a b acc (i : Int) (j : Int) false) (fun k => ?_) (Ev.step (fun k => ?_) e))
        · simp only [depotref01_merged.l0]
          rw [if_neg (by omega), decide_eq_true (by omega)]
        · simp only [depotref01_merged.j1]
          rw [if_pos trivial, if_neg (by omega), if_neg (by omega)]
        · simp only [depotref01_merged.j2]
          rw [if_neg (by decide), if_pos (by omega), if_pos (by omega), if_pos (by omega), if_pos (by omega), rd_nat, wrap_nat (by omega)]
      · have hnb : b.drop j = [] := List.drop_eq_nil_of_le (by omega)
        rw [hnil, hnb]
        simp only [mgF, List.append_nil]
        refine Ev.step (f := fun k => depotref01_merged.j1 k a b acc (i : Int) (j : Int) false) (fun k => ?_) (Ev.step (f := fun _ => some acc) (fun k => ?_) (Ev.now _))
        · simp only [depotref01_merged.l0]
          rw [if_neg (by omega), decide_eq_false (by omega)]
        · simp only [depotref01_merged.j1]
          rw [if_neg (by decide)]
theorem merged01 (a b : List Int) : Ev (fun k => depotref01_merged.f k (tidyL a) (tidyL b)) (tidyL (a ++ b)) := by
  have h1 := tidy_len a
  have h2 := tidy_len b
  have := merged_l (tidyL a) (tidyL b) (fm_tidy a) (fm_tidy b) (by omega) _ 0 0 [] (Nat.le_refl _) (by omega) (by omega) (by simp)
  rw [List.nil_append, List.drop_zero, List.drop_zero, mg_tidy a b _ (by omega)] at this
  simpa [depotref01_merged.f] using this
theorem tidy01 : ∀ (n : Nat) (c : List Int), c.length ≤ n → c.length ≤ 17592186044416 → Ev (fun k => depotref01_Tidy.f k c) (tidyL c)
  | n, c, hn, hl => by
    by_cases h0 : c.length = 0
    · obtain rfl : c = [] := List.eq_nil_of_length_eq_zero h0
      exact Ev.step (f := fun _ => some []) (fun k => by simp only [depotref01_Tidy.f]; rw [if_pos (by simp)]) (Ev.now _)
    · by_cases h1 : c.length = 1
      · obtain ⟨x, rfl⟩ := List.length_eq_one_iff.1 h1
        refine Ev.step (f := fun _ => some (tidyL [x])) (fun k => ?_) (Ev.now _)
        simp only [depotref01_Tidy.f]
        rw [if_neg (by simp), if_pos (by simp), if_pos (by simp)]
        have hr : rd [x] 0 = x := by simp [rd]
        rw [hr, formed01, Option.bind_some]
        by_cases hf : fm x = true
        · rw [if_pos hf]; simp [tidyL, hf, ins]
        · rw [if_neg hf]; simp [tidyL, hf]
      · match n, hn with
        | 0, hn => omega
        | n + 1, hn =>
          have hh : ((c.length : Int) / 2) = ((c.length / 2 : Nat) : Int) := by omega
          have hw : wrap64 ((c.length : Int) / 2) = ((c.length / 2 : Nat) : Int) := by rw [hh]; unfold wrap64; omega
          have i1 := tidy01 n (c.take (c.length / 2)) (by rw [List.length_take]; omega) (by rw [List.length_take]; omega)
          have i2 := tidy01 n (c.drop (c.length / 2)) (by rw [List.length_drop]; omega) (by rw [List.length_drop]; omega)
          have i3 := merged01 (c.take (c.length / 2)) (c.drop (c.length / 2))
          rw [List.take_append_drop] at i3
          refine Ev.step (fun k => ?_) (Ev.bind i1 (f := fun k t => (depotref01_Tidy.f k (c.drop (c.length / 2))).bind fun u => (depotref01_merged.f k t u).bind fun z => some z) (Ev.bind i2 (Ev.bind i3 (Ev.now _))))
          simp only [depotref01_Tidy.f]
          rw [if_neg (by omega), if_neg (by omega), hw, if_pos (by omega), if_pos (by omega), Int.toNat_natCast]
theorem without01_l (l : Int) (t : List Int) (hl : t.length ≤ 2097152) : ∀ (d n : Nat), t.length - n = d → n ≤ t.length → Ev (fun k => depotref01_Without.l0 k l t (dropL l (t.take n)) (n : Int)) (dropL l t) := by
  intro d
  induction d with
  | zero =>
    intro n hd hn
    rw [List.take_of_length_le (by omega)]
    refine Ev.step (f := fun _ => some (dropL l t)) (fun k => ?_) (Ev.now _)
    simp only [depotref01_Without.l0]
    rw [if_neg (by omega)]
  | succ d ih =>
    intro n hd hn
    have hlt : n < t.length := by omega
    have h := ih (n + 1) (by omega) (by omega)
    have hle : (dropL l (t.take n)).length ≤ n := Nat.le_trans (List.length_filter_le _ _) (List.length_take_le _ _)
    have hs : dropL l (t.take (n + 1)) = dropL l (t.take n) ++ (if t.getD n 0 = l then [] else [t.getD n 0]) := by
      unfold dropL
      rw [List.take_succ_eq_append_getElem hlt, List.filter_append, List.getD_eq_getElem?_getD, List.getElem?_eq_getElem hlt]
      congr 1
      show List.filter _ [t[n]] = if t[n] = l then [] else [t[n]]
      by_cases he : t[n] = l
      · rw [if_pos he, List.filter_cons_of_neg (by simp [he])]; rfl
      · rw [if_neg he, List.filter_cons_of_pos (by simp [he])]; rfl
    rw [hs] at h
    refine Ev.step (fun k => ?_) h
    simp only [depotref01_Without.l0]
    rw [if_pos (by omega), if_pos (by omega), rd_nat]
    by_cases he : t.getD n 0 = l
    · rw [if_pos he, if_pos he, List.append_nil, wrap_nat (by omega)]
    · rw [if_neg he, if_neg he, if_pos (by omega), wrap_nat (by omega)]
theorem without01 (c : List Int) (l : Int) (hl : c.length ≤ 17592186044416) : Ev (fun k => depotref01_Without.f k c l) (withoutL c l) := by
  have := without01_l l (tidyL c) (tidy_len c) _ 0 rfl (by omega)
  unfold depotref01_Without.f
  refine Ev.bind (tidy01 _ c (Nat.le_refl _) hl) ?_
  simpa [dropL, withoutL] using this
theorem join01 (a b : List Int) (ha : a.length ≤ 17592186044416) (hb : b.length ≤ 17592186044416) : Ev (fun k => depotref01_Join.f k a b) (joinL a b) := by
  unfold depotref01_Join.f joinL
  exact Ev.bind (tidy01 _ a (Nat.le_refl _) ha) (Ev.bind (tidy01 _ b (Nat.le_refl _) hb) (Ev.bind (merged01 a b) (Ev.now _)))

end Go.Proofs.YtjhmkhbmjopmkaaGreatDoor.Rf
