/- Part of the proof of TrimRight: what the law uses of the texts Join, UpA, UpB, UpC, UpD. -/
import Derived.Test.YtfljggodnnpeiaaZRJWithout
import Derived.Test.YtfljggodnnpeiaaZRUD
namespace Go.Proofs.Ytfljggodnnpeiaa.Spr
open Go.RowKit Go.Maps Go.Proofs.Ytfljggodnnpeiaa.Lit Go.Shelf Go.Proofs
set_option linter.unusedVariables false

theorem append_none (t ty : TypeId) (i : TypeInfo) (ht : Try.prog.underlying t = some (.slice 3)) (hi : Try.prog.info? 3 = some i) (base a : Option Addr) (n cap c : Nat) (hc : n ≤ cap) (w : World) :
    (Builtin.append_ #[t, t] ty #[.slice base n cap, .slice a 0 c]).run Try.prog w = .ok (.slice base n cap) w := by
  have h0 : (Builtin.firstCells i.size 0 (.slice a 0 c)).run Try.prog w = .ok (#[] : Array Value) w := by
    cases a with
    | none => exact run_firstCells_none w i.size 0 0 c
    | some ad => exact run_firstCells_some w i.size 0 ad 0 c [] (by simp) (by simp)
  cases base <;> simp [Builtin.append_, run_underlying ht, sizeOf, typeInfo, hi, Builtin.lenOf, h0, hc, storeCells]

theorem wpList_append_eq {P : Program} {ops : Array Oper} {rest : List Oper} {o : Oper} {a : Act} {Q : Exit → Act → World → Prop} (hgd : o.guard = none) (s x : Operand) (ts : Array TypeId)
    (ho : o.op = .call { callee := .builtin .append, args := #[s, x], argTypes := ts }) (vs vx v : Value) (hs : a.eval s = vs) (hx : a.eval x = vx) (w w' : World)
    (hrun : (Builtin.append_ ts o.type #[vs, vx]).run P w = .ok v w') (h : wpList P ops Q rest (a.put o.dst v) w') : wpList P ops Q (o :: rest) a w := by
  refine wpList_plain hgd fun K hK => ?_
  unfold Oper.wp execOp
  simp only [ho, resolve, invoke, builtin, Sem.run_bind, Sem.run_pure, Result.andThen_ok, List.map_toArray, List.map_cons, List.map_nil, hs, hx, hrun]
  exact hK _ _ h

set_option maxHeartbeats 1000000 in
set_option maxRecDepth 100000 in
theorem grow_nil (n : Nat) (h0 : 0 < n) (h : n * 8 ≤ 281474976710656) (w : World) :
    Calls Try.prog 163 #[.slice none 0 0, .int .i64 n] w fun e w' => ∃ cap, e = .returned (.slice (some ⟨w.heap.size, 0, none⟩) 0 cap) ∧ n ≤ cap ∧ w'.ownsRow w.heap.size 3 1 (.slice (some ⟨w.heap.size, 0, none⟩) 0 cap) 0 [] ∧ Below w.heap.size w w' := by
  obtain ⟨i3, hi3, z31, z32, z33⟩ := info_parts info3
  have hold : (Builtin.firstCells i3.size 0 (.slice none 0 0)).run Try.prog w.drew = .ok (#[] : Array Value) w.drew := run_firstCells_none w.drew i3.size 0 0 0
  have hrz : ∀ ty, (Builtin.append_ #[25, 3] ty #[.slice none 0 0, .int .i64 n]).run Try.prog w = _ := fun ty =>
    Lib.run_append_grow_zeros w 25 3 ty 3 i3 _ .i64 .i64 Try.underlying25 Try.underlying3 hi3 z31 none 0 0 [] hold n h0 (by omega) (by omega) (by omega) (by rw [z33]; omega) (by
      unfold Builtin.nextslicecap
      rw [if_pos (by omega), z33, Nat.zero_add]; exact h)
  rw [Nat.zero_add] at hrz
  have hGn : n ≤ grownCap w n 0 3 := grownCap_ge w _ _ _
  have hGm : grownCap w n 0 3 ≤ maxLen := grownCap_le_maxLen w n 0 3 (by unfold maxLen; omega)
  obtain ⟨G, hG⟩ : ∃ G, G = grownCap w n 0 3 := ⟨_, rfl⟩
  rw [← hG] at hrz hGn hGm
  have HGm := Lib.hid hGm
  unfold maxLen at hGm
  obtain ⟨cur, hcur⟩ : ∃ cur, cur = (#[] : Array Value) ++ Builtin.zeroCells (Value.int IntKind.i64 0).cells n ++ Builtin.zeroCells (Value.int IntKind.i64 0).cells (G - n) := ⟨_, rfl⟩
  have hcs : cur.size = G * 1 := by rw [hcur]; simp [Builtin.zeroCells, Value.cells]; omega
  have hrz2 : ∀ ty, (Builtin.append_ #[25, 3] ty #[.slice none 0 0, .int .i64 n]).run Try.prog w = .ok (.slice (some ⟨w.heap.size, 0, none⟩) n G) (w.drew.alloc (.cells cur 3)) := fun ty => by rw [hrz ty, hcur]
  have HCs := Lib.hid hcs
  have h1 : ¬ ((n : Int) < 0) := by omega
  have h4 : (n : Int) > 0 := by omega
  clear hrz hG hcur hcs hold
  go_enter Try.func163, Try.ntmps163
  have HR := Lib.hid hrz2
  clear hrz2
  go_wp2_with (at_builtin; refine wpList_append_eq rfl (.tmp 20) (.tmp 21) #[25, 3] rfl _ _ _ rfl rfl _ _ (HR.out _) ?_)
  go_ret
  refine ⟨G, rfl, hGn, ⟨rfl, .inr ⟨w.heap.size, G, cur, rfl, Nat.le_refl _, ?_, Nat.zero_le _, HGm.out, HCs.out, by simp⟩⟩, ?_⟩
  · show (w.heap.push _)[w.heap.size]? = some _
    exact Array.getElem?_push_size
  · exact (drawn_below w.heap.size w 1).alloc (by simp) _

def GrowPost (w : World) (n : Nat) (e : Ending) (w' : World) : Prop := ∃ D G, e = .returned (.slice D 0 G) ∧ n ≤ G ∧ w'.ownsRow w.heap.size 3 1 (.slice D 0 G) 0 [] ∧ Below w.heap.size w w' ∧ (0 < n → ∃ g, D = some ⟨g, 0, none⟩)
theorem grow_any (n : Nat) (h : n * 8 ≤ 281474976710656) (w : World) : Calls Try.prog 163 #[.slice none 0 0, .int .i64 n] w (GrowPost w n) := by
  by_cases h0 : 0 < n
  · exact (grow_nil n h0 h w).mono fun e w' ⟨cap, h1, h2, h3, h4⟩ => ⟨_, cap, h1, h2, h3, h4, fun _ => ⟨_, rfl⟩⟩
  · obtain rfl : n = 0 := by omega
    have hc : Calls Try.prog 163 #[.slice none 0 0, .int .i64 ((0 : Nat) : Int)] w _ := Any8.slices_Grow_room Try.laysGrow none 0 0 0 w (Nat.le_refl _) (by omega) (by omega) (Nat.le_refl _)
    exact hc.mono fun e w' ⟨h1, h2⟩ => ⟨none, 0, h1, Nat.le_refl _, ⟨rfl, .inl ⟨rfl, rfl⟩⟩, by rw [h2]; exact Below.refl _ _, fun h => absurd h (by omega)⟩

theorem take_flat {ls : List (List Int)} {k : Nat} (h : k < ls.length) : (ls.take (k + 1)).flatten = (ls.take k).flatten ++ ls.getD k [] := by
  rw [List.take_succ_eq_append_getElem h, List.flatten_append, List.getD_eq_getElem?_getD, List.getElem?_eq_getElem h]
  simp
theorem flat_le (ls : List (List Int)) (k : Nat) : (ls.take k).flatten.length ≤ ls.flatten.length := by
  have h : ls.flatten = (ls.take k).flatten ++ (ls.drop k).flatten := by rw [← List.flatten_append, List.take_append_drop]
  rw [h, List.length_append]
  omega
theorem ic_news {w : World} {ad : Addr} {xs : List Int} (h : IC w (some ad) xs) : ∀ j u, (ints .i64 xs)[j]? = some u → w.cell? (ad.add j) = some u := fun j u hj => by
  have hlt : j < xs.length := by
    rw [← ints_len .i64 xs]
    exact (List.getElem?_eq_some_iff.1 hj).1
  obtain ⟨ad', e, hc⟩ := h j hlt
  cases e
  rw [hc]
  have h2 : (ints .i64 xs)[j]? = some (.int .i64 (xs.getD j 0)) := ints_get hlt
  rw [h2] at hj
  exact hj
def ConcatPost (w : World) (ls : List (List Int)) (e : Ending) (w' : World) : Prop := ∃ v, e = .returned v ∧ w'.ownsRow w.heap.size 3 1 v (ints .i64 ls.flatten).length (ints .i64 ls.flatten) ∧ Below w.heap.size w w'

set_option maxHeartbeats 4000000 in
set_option maxRecDepth 100000 in
theorem concat_any (A : Option Addr) (c : Nat) (ls : List (List Int)) (w : World) (hC : RC w A ls) (hl : ls.length ≤ 9223372036854775807) (h8 : ls.flatten.length * 8 ≤ 281474976710656) :
    Calls Try.prog 146 #[.slice A ls.length c] w (ConcatPost w ls) := by
  have HC := Lib.hid hC
  have hN : (ls.flatten.length : Int) ≤ 35184372088832 := by omega
  have HT := Lib.hid (fun k (h : k < ls.length) => take_flat (ls := ls) h)
  have HL := Lib.hid (flat_le ls)
  obtain ⟨i3, hi3, z31, z32, z33⟩ := info_parts info3
  have Hi3 := Lib.hid (And.intro hi3 (And.intro z31 (And.intro z32 z33)))
  have HAn := Lib.hid (fun base a n cap c hc w ty => append_none 25 ty i3 Try.underlying25 hi3 base a n cap c hc w)
  clear hC hi3 z31 z32 z33
  unfold ConcatPost
  generalize hm : ls.length = m at *
  have Hm := Lib.hid hm
  clear hm
  have HAll := Lib.hid (show (ls.take m).flatten = ls.flatten by rw [List.take_of_length_le (by rw [Hm.out]; exact Nat.le_refl _)])
  generalize hF : ls.flatten = F at *
  have HF := Lib.hid hF
  clear hF
  have HG := Lib.hid (grow_any F.length (by omega) w)
  unfold GrowPost at HG
  go_enter Try.func146, Try.ntmps146
  go_wp2
  go_loop [3, 11] (fun s i => ∃ k : Nat, k ≤ m ∧ i = .int .i64 k ∧ s = .int .i64 ((ls.take k).flatten.length : Nat)) (fun _ i => m - (intOf i).toNat)
  case atStart => exact ⟨0, Nat.zero_le _, rfl, rfl⟩
  case round =>
    obtain ⟨k, hk, rfl, rfl⟩ := hrel
    have hle := HL.out k
    by_cases hlt : k < m
    · obtain ⟨ad, A0, c0, hA, hcell, hIC⟩ := HC.out k (by rw [Hm.out]; exact hlt)
      subst hA
      have ht := HT.out k hlt
      have hle2 := HL.out (k + 1)
      rw [ht, List.length_append] at hle2
      have HTk := Lib.hid ht
      clear ht hIC
      generalize (ls.take k).flatten = G at *
      generalize ls.getD k [] = z at *
      have hng : ¬ ((G.length : Int) + (z.length : Int) < 0) := by omega
      go_wp2
      go_round
      case rel => exact ⟨k + 1, by omega, by go_num, by rw [HTk.out, List.length_append]; go_num⟩
      case measure => simp [intOf]; omega
    · obtain rfl : k = m := by omega
      rw [HAll.out]
      go_wp2_with (go_at_call 163; refine HG.out.mono ?_; rintro e w1 ⟨D, G, rfl, hGl, ho1, hb1, hD⟩; have HO1 := Lib.hid ho1; have HB1 := Lib.hid hb1; have HD := Lib.hid hD; clear ho1 hb1 hD)
      go_loopw [6, 27] (fun u i wr => ∃ k1 : Nat, k1 ≤ k ∧ i = .int .i64 k1 ∧ u = .slice D (ls.take k1).flatten.length G ∧ Hid (wr.ownsRow w.heap.size 3 1 (.slice D (ls.take k1).flatten.length G) (ls.take k1).flatten.length (ints .i64 (ls.take k1).flatten)) ∧ Hid (Below w.heap.size w wr)) (fun _ i _ => k - (intOf i).toNat)
      case atStart => exact ⟨0, Nat.zero_le _, rfl, rfl, HO1.out, HB1.out⟩
      case round =>
        obtain ⟨k1, hk1, rfl, rfl, ho, hb⟩ := hrel
        have hle1 := HL.out k1
        by_cases hlt1 : k1 < k
        · obtain ⟨ad, A0, c0, hA, hcell, hIC⟩ := HC.out k1 (by rw [Hm.out]; exact hlt1)
          subst hA
          replace hcell := (hb.out.cell (World.block_lt_of_cell? w _ hcell)).trans hcell
          have hIC2 := hIC.below hb.out
          have ht := HT.out k1 hlt1
          have hle2 := HL.out (k1 + 1)
          rw [ht, List.length_append] at hle2
          have HTk := Lib.hid ht
          have HIC := Lib.hid hIC2
          clear ht hIC hIC2 hk hlt
          generalize (ls.take k1).flatten = Q at *
          generalize ls.getD k1 [] = z at *
          by_cases hz : z.length = 0
          · obtain rfl : z = [] := List.eq_nil_of_length_eq_zero hz
            have hQG : Q.length ≤ G := by omega
            have HR := Lib.hid (fun ty => HAn.out D A0 Q.length G c0 hQG wr ty)
            have HTn := Lib.hid (show (ls.take (k1 + 1)).flatten = Q by rw [HTk.out, List.append_nil])
            go_wp2_with (at_builtin; refine wpList_append_eq rfl (.tmp 31) (.tmp 32) #[25, 25] rfl _ _ _ rfl rfl _ _ (HR.out _) ?_)
            go_roundw
            case rel => exact ⟨k1 + 1, by omega, by go_num, by rw [HTn.out], by rw [HTn.out]; exact ho.out, hb.out⟩
            case measure => simp [intOf]; omega
          · obtain ⟨g, hDg⟩ := HD.out (by omega)
            subst hDg
            obtain ⟨az, hA0, _⟩ := HIC.out 0 (by omega)
            subst hA0
            go_wp2_with (at_builtin; refine wpList_append_own_spare _ rfl (.tmp 31) (.tmp 32) 25 rfl w.heap.size 3 i3 1 Try.underlying25 Hi3.out.1 Hi3.out.2.2.1 g Q.length G _ rfl ho.out az z.length c0 (ints .i64 z) rfl (by rw [ints_len, Nat.mul_one]) (ic_news HIC.out) (by intro u hu; obtain ⟨x, _, rfl⟩ := List.mem_map.1 hu; rfl) ?_ ?_; (omega); intro w2 hown2 hgrow2; have HO2 := Lib.hid hown2; have HB2 := Lib.hid (hb.out.grown hgrow2 hb.out.size (own_base ho.out)); clear hown2 hgrow2)
            go_roundw
            case rel => exact ⟨k1 + 1, by omega, by go_num, by rw [HTk.out, List.length_append], by rw [HTk.out, List.length_append, show ints .i64 (Q ++ z) = ints .i64 Q ++ ints .i64 z by simp [ints]]; exact HO2.out, HB2.out⟩
            case measure => simp [intOf]; omega
        · obtain rfl : k1 = k := by omega
          rw [HAll.out] at ho ⊢
          go_wp2
          go_ret
          exact ⟨_, rfl, by rw [ints_len]; exact ho.out, hb.out⟩

end Go.Proofs.Ytfljggodnnpeiaa.Spr

namespace Go.Proofs.Ytfljggodnnpeiaa.Spr
open Go.RowKit Go.Proofs.Ytfljggodnnpeiaa.Lit

inductive UP (cls : List (List Int)) (F : List Int) : Int → Prop
  | fact {l : Int} : l ∈ F → UP cls F l
  | unit {c : List Int} {l : Int} : c ∈ cls → l ∈ c → (∀ x ∈ c, x ≠ l → UP cls F (-x)) → UP cls F l
def Clash (cls : List (List Int)) (F : List Int) : Prop := (∃ l, UP cls F l ∧ UP cls F (-l)) ∨ ∃ c ∈ cls, ∀ x ∈ c, UP cls F (-x)

theorem UP.mono {cls cls' : List (List Int)} {F F' : List Int} (hc : ∀ c ∈ cls, ∃ c' ∈ cls', ∀ x, x ∈ c ↔ x ∈ c') (hF : ∀ l ∈ F, l ∈ F') {l : Int} (h : UP cls F l) : UP cls' F' l := by
  induction h with
  | fact hl => exact .fact (hF _ hl)
  | unit h1 h2 _ ih =>
    obtain ⟨c', h3, h4⟩ := hc _ h1
    exact .unit h3 ((h4 _).1 h2) (fun x hx hne => ih x ((h4 x).2 hx) hne)
theorem Clash.mono {cls cls' : List (List Int)} {F F' : List Int} (hc : ∀ c ∈ cls, ∃ c' ∈ cls', ∀ x, x ∈ c ↔ x ∈ c') (hF : ∀ l ∈ F, l ∈ F') (h : Clash cls F) : Clash cls' F' := by
  rcases h with ⟨l, h1, h2⟩ | ⟨c, h1, h2⟩
  · exact .inl ⟨l, h1.mono hc hF, h2.mono hc hF⟩
  · obtain ⟨c', h3, h4⟩ := hc _ h1
    exact .inr ⟨c', h3, fun x hx => (h2 x ((h4 x).2 hx)).mono hc hF⟩

structure Closed (cls : List (List Int)) (F : List Int) (T : Int → Prop) : Prop where
  facts : ∀ l ∈ F, T l
  con : ∀ l, T l → ¬ T (-l)
  cl : ∀ c ∈ cls, (∃ x ∈ c, T x) ∨ ∃ x ∈ c, ∃ y ∈ c, x ≠ y ∧ ¬ T (-x) ∧ ¬ T (-y)
theorem Closed.up {cls : List (List Int)} {F : List Int} {T : Int → Prop} (h : Closed cls F T) {l : Int} (hl : UP cls F l) : T l := by
  induction hl with
  | fact hl => exact h.facts _ hl
  | @unit c l h1 h2 _ ih =>
    rcases h.cl c h1 with ⟨x, hx, ht⟩ | ⟨x, hx, y, hy, hne, h3, h4⟩
    · by_cases e : x = l
      · rw [← e]; exact ht
      · exact absurd (ih x hx e) (h.con x ht)
    · by_cases e : x = l
      · exact absurd (ih y hy (fun e2 => hne (e.trans e2.symm))) h4
      · exact absurd (ih x hx e) h3
theorem Closed.no_clash {cls : List (List Int)} {F : List Int} {T : Int → Prop} (h : Closed cls F T) : ¬ Clash cls F := by
  rintro (⟨l, h1, h2⟩ | ⟨c, h1, h2⟩)
  · exact h.con l (h.up h1) (h.up h2)
  · rcases h.cl c h1 with ⟨x, hx, ht⟩ | ⟨x, hx, y, hy, hne, h3, h4⟩
    · exact h.con x ht (h.up (h2 x hx))
    · exact h3 (h.up (h2 x hx))

theorem fm_neg {l : Int} (h : fm l = true) : fm (-l) = true := by
  have := fm_true h
  exact decide_eq_true (by omega)
theorem vl_neg (S : St) {l : Int} (h : fm l = true) : vl S (-l) = -vl S l := by
  have hf := fm_true h
  unfold vl
  rw [lv_neg h]
  by_cases hk : S.ids.contains (lv l) = true
  · rw [if_pos hk, if_pos hk]
    by_cases h0 : l < 0
    · rw [if_neg (by omega), if_pos h0]; omega
    · rw [if_pos (by omega), if_neg h0]
  · rw [if_neg hk, if_neg hk]; rfl
theorem vl_place {S : St} (h : Ok S) (l x : Int) : vl (placeSt S l) x = vl S x := by
  unfold placeSt
  by_cases hk : S.ids.contains (lv l) = true
  · rw [if_pos hk]
  · rw [if_neg hk]
    unfold vl newPlace
    dsimp only
    by_cases hx : S.ids.contains (lv x) = true
    · have hx' : (S.ids ++ [lv l]).contains (lv x) = true := by simp at hx ⊢; exact .inl hx
      have hi : S.ids.idxOf (lv x) < S.value.length := by rw [h.lnv]; exact List.idxOf_lt_length_of_mem (by simpa using hx)
      rw [if_pos hx, if_pos hx', idx_app hx]
      rw [List.getD_eq_getElem?_getD, List.getElem?_append_left hi, ← List.getD_eq_getElem?_getD]
    · rw [if_neg hx]
      by_cases hx' : (S.ids ++ [lv l]).contains (lv x) = true
      · rw [if_pos hx']
        have hi : (S.ids ++ [lv l]).idxOf (lv x) = S.ids.length := by
          have hm : lv x ∉ S.ids := by simpa using hx
          have he : lv x = lv l := by simp at hx' hm; exact hx'.resolve_left hm
          rw [List.idxOf_append, if_neg hm, he]
          simp
        rw [hi, ← h.lnv]
        simp
      · rw [if_neg hx']
theorem lv_eq {l x : Int} (hl : fm l = true) (hx : fm x = true) (h : lv x = lv l) : x = l ∨ x = -l := by
  have h1 := fm_true hl
  have h2 := fm_true hx
  unfold lv at h
  rw [if_pos hl, if_pos hx] at h
  split at h <;> split at h <;> omega
theorem vl_putNew {S : St} (h : Ok S) (l x why : Int) (hl : fm l = true) (hx : fm x = true) (hk : S.ids.contains (lv l) = true) :
    vl (putNew S l why) x = if x = l then 1 else if x = -l then -1 else vl S x := by
  have h1 := fm_true hl
  have hi : S.ids.idxOf (lv l) < S.value.length := by rw [h.lnv]; exact List.idxOf_lt_length_of_mem (by simpa using hk)
  unfold vl putNew
  dsimp only
  by_cases he : lv x = lv l
  · rw [he, if_pos hk]
    have hg : (S.value.set (S.ids.idxOf (lv l)) (if l < 0 then -1 else 1)).getD (S.ids.idxOf (lv l)) 0 = (if l < 0 then -1 else 1) := by
      rw [List.getD_eq_getElem?_getD, List.getElem?_set_self hi]; rfl
    rw [hg]
    rcases lv_eq hl hx he with e | e
    · subst e
      rw [if_pos rfl]
      split <;> rfl
    · subst e
      have hne : ¬ (-l = l) := by omega
      rw [if_neg hne, if_pos rfl]
      by_cases h0 : l < 0
      · rw [if_neg (show ¬ (-l) < 0 by omega), if_pos h0]
      · rw [if_pos (show (-l) < 0 by omega), if_neg h0]
  · have n1 : x ≠ l := fun e => he (by rw [e])
    have n2 : x ≠ -l := fun e => he (by rw [e]; exact lv_neg hl)
    rw [if_neg n1, if_neg n2]
    by_cases hkx : S.ids.contains (lv x) = true
    · rw [if_pos hkx, if_pos hkx]
      have hne : S.ids.idxOf (lv l) ≠ S.ids.idxOf (lv x) := by
        intro e
        have hmx : lv x ∈ S.ids := by simpa using hkx
        have hml : lv l ∈ S.ids := by simpa using hk
        have a := List.getElem_idxOf (List.idxOf_lt_length_of_mem hmx)
        have b := List.getElem_idxOf (List.idxOf_lt_length_of_mem hml)
        exact he (by rw [← a, ← b]; congr 1; exact e.symm)
      rw [List.getD_eq_getElem?_getD, List.getElem?_set_ne hne, ← List.getD_eq_getElem?_getD]
    · rw [if_neg hkx, if_neg hkx]
theorem vl_put {S : St} (h : Ok S) (l x why : Int) (hl : fm l = true) (hx : fm x = true) :
    vl (putSt S l why) x = if vl S l = 0 then (if x = l then 1 else if x = -l then -1 else vl S x) else vl S x := by
  unfold putSt
  rw [vl_place h]
  by_cases h0 : vl S l = 0
  · rw [if_pos h0, if_pos h0, vl_putNew (h.place l) l x why hl hx (placeSt_has S l), vl_place h]
  · rw [if_neg h0, if_neg h0, vl_place h]
theorem put_trail {S : St} (h : Ok S) (l why : Int) : (putSt S l why).trail = if vl S l = 0 then S.trail ++ [l] else S.trail := by
  unfold putSt
  rw [vl_place h]
  have ht : (placeSt S l).trail = S.trail := (placeSt_fields S l).2.2.2.1
  split
  · exact congrArg (· ++ [l]) ht
  · exact ht

end Go.Proofs.Ytfljggodnnpeiaa.Spr

namespace Go.Proofs.Ytfljggodnnpeiaa.Spr
open Go.RowKit Go.Proofs.Ytfljggodnnpeiaa.Lit

structure Inv (cls : List (List Int)) (F : List Int) (S : St) : Prop where
  good : Good S
  cl : S.clauses = cls
  kn : Known S
  inn : ∀ l, fm l = true → S.ids.contains (lv l) = true → inAt S l = occ cls l
  tv : ∀ l, fm l = true → (l ∈ S.trail ↔ vl S l = 1)
  nd : S.trail.Nodup
  snd : ∀ l ∈ S.trail, UP cls F l
  bad : S.bad ≠ -1 → Clash cls F

theorem Inv.put {cls : List (List Int)} {F : List Int} {S : St} (h : Inv cls F S) (l why : Int) (hl : fm l = true) (hu : UP cls F l) : Inv cls F (putSt S l why) := by
  obtain ⟨e1, e2, e3, e4, e5, e6, e7, _⟩ := putSt_fields S l why
  have hok := h.good.ok
  refine ⟨h.good.put l why hl, e1.trans h.cl, h.kn.put l why, ?_, ?_, ?_, ?_, fun hb => h.bad (by rw [← e5]; exact hb)⟩
  · intro x hx hk
    have he : inAt (putSt S l why) x = inAt (placeSt S l) x := by unfold inAt; rw [e6, e7]
    rw [he]
    by_cases hks : S.ids.contains (lv x) = true
    · rw [inAt_place hok.li l x hks]
      exact h.inn x hx hks
    · have hv : lv x = lv l := by
        rw [e6] at hk
        unfold placeSt at hk
        by_cases hkl : S.ids.contains (lv l) = true
        · rw [if_pos hkl] at hk; exact absurd hk hks
        · rw [if_neg hkl] at hk
          unfold newPlace at hk
          simp at hk hks
          exact hk.resolve_left hks
      rw [inAt_fresh hok.li l x hks hv]
      refine (occ_nil cls x fun c hc hm => hks ?_).symm
      exact h.kn c (by rw [h.cl]; exact hc) x hm
  · intro x hx
    rw [put_trail hok, vl_put hok l x why hl hx]
    by_cases h0 : vl S l = 0
    · rw [if_pos h0, if_pos h0, List.mem_append, List.mem_singleton]
      by_cases e : x = l
      · rw [if_pos e]; exact ⟨fun _ => rfl, fun _ => .inr e⟩
      · rw [if_neg e]
        by_cases e' : x = -l
        · rw [if_pos e']
          constructor
          · intro ht
            have h1 := (h.tv x hx).1 (ht.resolve_right e)
            rw [e', vl_neg S hl, h0] at h1
            exact absurd h1 (by decide)
          · intro hc; exact absurd hc (by decide)
        · rw [if_neg e']
          exact ⟨fun ht => (h.tv x hx).1 (ht.resolve_right e), fun hv => .inl ((h.tv x hx).2 hv)⟩
    · rw [if_neg h0, if_neg h0]; exact h.tv x hx
  · rw [put_trail hok]
    by_cases h0 : vl S l = 0
    · rw [if_pos h0, List.nodup_append]
      refine ⟨h.nd, by simp, fun a ha b hb e => ?_⟩
      have hb' : b = l := by simpa using hb
      have h1 := (h.tv l hl).1 (by rw [← hb', ← e]; exact ha)
      rw [h0] at h1
      exact absurd h1 (by decide)
    · rw [if_neg h0]; exact h.nd
  · intro x hx
    rw [put_trail hok] at hx
    split at hx
    · rcases List.mem_append.1 hx with hx | hx
      · exact h.snd x hx
      · rw [List.mem_singleton.1 hx]; exact hu
    · exact h.snd x hx
theorem put_sub {S : St} (h : Ok S) (l why : Int) : ∀ x ∈ S.trail, x ∈ (putSt S l why).trail := fun x hx => by
  rw [put_trail h]; split
  · exact List.mem_append_left _ hx
  · exact hx

def posN (D c : List Int) : Nat := (c.filter fun x => D.contains x).length
def opnN (D c : List Int) : Nat := (c.filter fun x => !D.contains (-x)).length
structure Cnt (cls : List (List Int)) (D : List Int) (S : St) : Prop where
  on : ∀ n, n < cls.length → S.on.getD n 0 = (posN D (cls.getD n []) : Int)
  opn : ∀ n, n < cls.length → S.opn.getD n 0 = (opnN D (cls.getD n []) : Int)
def Looked (D T c : List Int) : Prop := (∃ x ∈ c, x ∈ D) ∨ (∃ x ∈ c, ∃ y ∈ c, x ≠ y ∧ -x ∉ D ∧ -y ∉ D) ∨ ∃ l ∈ c, -l ∉ D ∧ (l ∈ T ∨ -l ∈ T)
theorem Looked.mono {D T T' c : List Int} (h : Looked D T c) (ht : ∀ x ∈ T, x ∈ T') : Looked D T' c := by
  rcases h with h | h | ⟨l, h1, h2, h3⟩
  · exact .inl h
  · exact .inr (.inl h)
  · exact .inr (.inr ⟨l, h1, h2, h3.imp (ht _) (ht _)⟩)

theorem posN_pos {D c : List Int} (h : 0 < posN D c) : ∃ x ∈ c, x ∈ D := by
  obtain ⟨x, hx⟩ := List.exists_mem_of_length_pos h
  obtain ⟨h1, h2⟩ := List.mem_filter.1 hx
  exact ⟨x, h1, by simpa using h2⟩
theorem two_of {l : List Int} (hn : l.Nodup) (h : 1 < l.length) : ∃ x ∈ l, ∃ y ∈ l, x ≠ y := by
  match l, h with
  | x :: y :: t, _ =>
    refine ⟨x, by simp, y, by simp, fun e => ?_⟩
    have := (List.nodup_cons.1 hn).1
    exact this (by rw [e]; simp)
theorem opnN_two {D c : List Int} (hn : c.Nodup) (h : 1 < opnN D c) : ∃ x ∈ c, ∃ y ∈ c, x ≠ y ∧ -x ∉ D ∧ -y ∉ D := by
  obtain ⟨x, hx, y, hy, hne⟩ := two_of (hn.filter _) h
  obtain ⟨h1, h2⟩ := List.mem_filter.1 hx
  obtain ⟨h3, h4⟩ := List.mem_filter.1 hy
  exact ⟨x, h1, y, h3, hne, by simpa using h2, by simpa using h4⟩
theorem opnN_zero {D c : List Int} (h : opnN D c = 0) : ∀ x ∈ c, -x ∈ D := fun x hx => by
  have he := List.eq_nil_of_length_eq_zero h
  have := List.filter_eq_nil_iff.1 he x hx
  simpa using this
theorem opnN_one {D c : List Int} (h : opnN D c = 1) : ∃ l ∈ c, -l ∉ D ∧ ∀ x ∈ c, x ≠ l → -x ∈ D := by
  obtain ⟨l, hl⟩ := List.length_eq_one_iff.1 h
  have hm : l ∈ c.filter (fun x => !D.contains (-x)) := by rw [hl]; simp
  obtain ⟨h1, h2⟩ := List.mem_filter.1 hm
  refine ⟨l, h1, by simpa using h2, fun x hx hne => ?_⟩
  by_cases hd : -x ∈ D
  · exact hd
  · have : x ∈ c.filter (fun x => !D.contains (-x)) := List.mem_filter.2 ⟨hx, by simpa using hd⟩
    rw [hl] at this
    exact absurd (List.mem_singleton.1 this) hne

theorem Inv.tneg {cls : List (List Int)} {F : List Int} {S : St} (h : Inv cls F S) {l : Int} (hl : fm l = true) : (-l ∈ S.trail ↔ vl S l = -1) := by
  rw [h.tv (-l) (fm_neg hl), vl_neg S hl]
  omega
theorem Inv.unit {cls : List (List Int)} {F : List Int} {S : St} (h : Inv cls F S) {D : List Int} (hD : ∀ x ∈ D, x ∈ S.trail) (n : Nat) (c : List Int) (hc : c ∈ cls) (h1 : opnN D c = 1) :
    Inv cls F (unitSt S n c) ∧ (∀ x ∈ S.trail, x ∈ (unitSt S n c).trail) ∧ Looked D (unitSt S n c).trail c := by
  obtain ⟨l, hl, hld, hoth⟩ := opnN_one h1
  have hfc : ∀ x ∈ c, fm x = true := fun x hx => h.good.cf c (by rw [h.cl]; exact hc) x hx
  have hfl := hfc l hl
  unfold unitSt
  cases hf : c.find? (fun l => decide (vl S l ≥ 0)) with
  | none =>
    dsimp only
    refine ⟨h, fun _ hx => hx, .inr (.inr ⟨l, hl, hld, .inr ?_⟩)⟩
    have := List.find?_eq_none.1 hf l hl
    have hv : ¬ vl S l ≥ 0 := by simpa using this
    rw [h.tneg hfl]
    rcases vl_cases h.good.ok l with e | e | e <;> omega
  | some m =>
    dsimp only
    have hm := List.mem_of_find?_eq_some hf
    have hv : vl S m ≥ 0 := by simpa using List.find?_some hf
    have hml : m = l := by
      by_cases e : m = l
      · exact e
      · have := (h.tneg (hfc m hm)).1 (hD _ (hoth m hm e))
        omega
    subst hml
    have hu : UP cls F m := .unit hc hm fun x hx hne => h.snd _ (hD _ (hoth x hx hne))
    refine ⟨h.put m n hfl hu, put_sub h.good.ok m n, .inr (.inr ⟨m, hm, hld, .inl ?_⟩)⟩
    rw [put_trail h.good.ok]
    by_cases h0 : vl S m = 0
    · rw [if_pos h0]; simp
    · rw [if_neg h0, h.tv m hfl]
      rcases vl_cases h.good.ok m with e | e | e <;> omega

theorem getD_mem {cls : List (List Int)} {n : Nat} (h : n < cls.length) : cls.getD n [] ∈ cls := by
  rw [List.getD_eq_getElem?_getD, List.getElem?_eq_getElem h]; exact List.getElem_mem h
theorem Inv.look {cls : List (List Int)} {F : List Int} {S : St} (h : Inv cls F S) (hnd : ∀ c ∈ cls, c.Nodup) {D : List Int} (hc : Cnt cls D S) (hD : ∀ x ∈ D, x ∈ S.trail) (n : Nat) (hn : n < cls.length) :
    Inv cls F (lookSt S n) ∧ Cnt cls D (lookSt S n) ∧ (∀ x ∈ S.trail, x ∈ (lookSt S n).trail) ∧ ((lookSt S n).bad = -1 → S.bad = -1 ∧ Looked D (lookSt S n).trail (cls.getD n [])) := by
  have hm := getD_mem hn
  obtain ⟨f1, f2, f3, f4⟩ := lookSt_fields S n
  have hC : Cnt cls D (lookSt S n) := ⟨fun k hk => by rw [f3]; exact hc.on k hk, fun k hk => by rw [f2]; exact hc.opn k hk⟩
  refine ⟨?_, hC, ?_⟩
  · unfold lookSt
    split
    · exact h
    · rename_i h1
      split
      · rename_i h2
        have h0 : opnN D (cls.getD n []) = 0 := by have := hc.opn n hn; omega
        refine ⟨?_, h.cl, h.kn, h.inn, h.tv, h.nd, h.snd, fun _ => .inr ⟨_, hm, fun x hx => h.snd _ (hD _ (opnN_zero h0 x hx))⟩⟩
        have := h.good.look n (by rw [h.cl]; exact hn)
        unfold lookSt at this
        rw [if_neg h1, if_pos h2] at this
        exact this
      · rename_i h2
        have h0 : opnN D (cls.getD n []) = 1 := by have := hc.opn n hn; omega
        rw [h.cl]
        exact (h.unit hD n _ hm h0).1
  · unfold lookSt
    split
    · rename_i h1
      refine ⟨fun _ hx => hx, fun hb => ⟨hb, ?_⟩⟩
      rw [hc.on n hn, hc.opn n hn] at h1
      rcases h1 with h1 | h1
      · exact .inl (posN_pos (by omega))
      · exact .inr (.inl (opnN_two (hnd _ hm) (by omega)))
    · rename_i h1
      split
      · refine ⟨fun _ hx => hx, fun hb => ?_⟩
        have hb : (n : Int) = -1 := hb
        omega
      · rename_i h2
        have h0 : opnN D (cls.getD n []) = 1 := by have := hc.opn n hn; omega
        rw [h.cl]
        obtain ⟨_, h3, h4⟩ := h.unit hD n _ hm h0
        refine ⟨h3, fun hb => ⟨?_, h4⟩⟩
        rw [← hb]
        unfold unitSt
        split
        · exact ((putSt_fields S _ _).2.2.2.2.1).symm
        · rfl

end Go.Proofs.Ytfljggodnnpeiaa.Spr

namespace Go.Proofs.Ytfljggodnnpeiaa.Spr
open Go.RowKit Go.Proofs.Ytfljggodnnpeiaa.Lit

theorem Inv.begin_ {cls : List (List Int)} {F : List Int} {S : St} (h : Inv cls F S) (hnd : ∀ c ∈ cls, c.Nodup) (hc : Cnt cls [] S) : ∀ k, k ≤ cls.length →
    Inv cls F (beginF S k) ∧ Cnt cls [] (beginF S k) ∧ (∀ x ∈ S.trail, x ∈ (beginF S k).trail) ∧ ((beginF S k).bad = -1 → ∀ n, n < k → Looked [] (beginF S k).trail (cls.getD n [])) ∧ (beginF S k).done = S.done
  | 0, _ => ⟨h, hc, fun _ hx => hx, fun _ n hn => absurd hn (by omega), rfl⟩
  | k + 1, hk => by
    obtain ⟨h1, h2, h3, h4, h5⟩ := h.begin_ hnd hc k (by omega)
    rw [beginF_succ]
    obtain ⟨g1, g2, g3, g4⟩ := h1.look hnd h2 (by simp) k (by omega)
    refine ⟨g1, g2, fun x hx => g3 x (h3 x hx), fun hb n hn => ?_, (lookSt_fields _ _).2.2.2.trans h5⟩
    obtain ⟨b1, b2⟩ := g4 hb
    by_cases e : n = k
    · rw [e]; exact b2
    · exact (h4 b1 n (by omega)).mono g3

theorem fold_up : ∀ (ns : List Int) (S : St), ns.Nodup → (∀ n ∈ ns, 0 ≤ n ∧ n < S.on.length) →
    (∀ m : Nat, (ns.foldl upOn S).on.getD m 0 = if (m : Int) ∈ ns then wrap64 (S.on.getD m 0 + 1) else S.on.getD m 0) ∧ (ns.foldl upOn S).opn = S.opn ∧ (ns.foldl upOn S).clauses = S.clauses ∧ (ns.foldl upOn S).ids = S.ids ∧ (ns.foldl upOn S).inn = S.inn ∧ (ns.foldl upOn S).trail = S.trail ∧ (ns.foldl upOn S).done = S.done ∧ (ns.foldl upOn S).bad = S.bad ∧ (ns.foldl upOn S).value = S.value
  | [], S, _, _ => ⟨fun m => by simp, rfl, rfl, rfl, rfl, rfl, rfl, rfl, rfl⟩
  | n :: t, S, hn, hr => by
    obtain ⟨h1, h2⟩ := List.nodup_cons.1 hn
    have hn0 := hr n (by simp)
    obtain ⟨g1, g2⟩ := fold_up t (upOn S n) h2 (fun x hx => by have := hr x (by simp [hx]); simpa [upOn] using this)
    refine ⟨fun m => ?_, g2⟩
    rw [List.foldl_cons, g1 m]
    have hg : (upOn S n).on.getD m 0 = if (m : Int) = n then wrap64 (S.on.getD m 0 + 1) else S.on.getD m 0 := by
      unfold upOn
      dsimp only
      by_cases e : (m : Int) = n
      · have em : n.toNat = m := by omega
        rw [if_pos e, em, List.getD_eq_getElem?_getD, List.getElem?_set_self (by omega)]; rfl
      · have em : n.toNat ≠ m := by omega
        rw [if_neg e, List.getD_eq_getElem?_getD, List.getElem?_set_ne em, ← List.getD_eq_getElem?_getD]
    rw [hg]
    by_cases e : (m : Int) = n
    · have : ¬ (m : Int) ∈ t := by rw [e]; exact h1
      rw [if_neg this, if_pos e, if_pos (by simp [e])]
    · rw [if_neg e]
      by_cases hm : (m : Int) ∈ t
      · rw [if_pos hm, if_pos (by simp [hm])]
      · rw [if_neg hm, if_neg (by simp [hm, e])]
theorem fold_down : ∀ (ns : List Int) (S : St), ns.Nodup → (∀ n ∈ ns, 0 ≤ n ∧ n < S.opn.length) →
    (∀ m : Nat, (ns.foldl downOpn S).opn.getD m 0 = if (m : Int) ∈ ns then wrap64 (S.opn.getD m 0 - 1) else S.opn.getD m 0) ∧ (ns.foldl downOpn S).on = S.on ∧ (ns.foldl downOpn S).clauses = S.clauses ∧ (ns.foldl downOpn S).ids = S.ids ∧ (ns.foldl downOpn S).inn = S.inn ∧ (ns.foldl downOpn S).trail = S.trail ∧ (ns.foldl downOpn S).done = S.done ∧ (ns.foldl downOpn S).bad = S.bad ∧ (ns.foldl downOpn S).value = S.value
  | [], S, _, _ => ⟨fun m => by simp, rfl, rfl, rfl, rfl, rfl, rfl, rfl, rfl⟩
  | n :: t, S, hn, hr => by
    obtain ⟨h1, h2⟩ := List.nodup_cons.1 hn
    have hn0 := hr n (by simp)
    obtain ⟨g1, g2⟩ := fold_down t (downOpn S n) h2 (fun x hx => by have := hr x (by simp [hx]); simpa [downOpn] using this)
    refine ⟨fun m => ?_, g2⟩
    rw [List.foldl_cons, g1 m]
    have hg : (downOpn S n).opn.getD m 0 = if (m : Int) = n then wrap64 (S.opn.getD m 0 - 1) else S.opn.getD m 0 := by
      unfold downOpn
      dsimp only
      by_cases e : (m : Int) = n
      · have em : n.toNat = m := by omega
        rw [if_pos e, em, List.getD_eq_getElem?_getD, List.getElem?_set_self (by omega)]; rfl
      · have em : n.toNat ≠ m := by omega
        rw [if_neg e, List.getD_eq_getElem?_getD, List.getElem?_set_ne em, ← List.getD_eq_getElem?_getD]
    rw [hg]
    by_cases e : (m : Int) = n
    · have : ¬ (m : Int) ∈ t := by rw [e]; exact h1
      rw [if_neg this, if_pos e, if_pos (by simp [e])]
    · rw [if_neg e]
      by_cases hm : (m : Int) ∈ t
      · rw [if_pos hm, if_pos (by simp [hm])]
      · rw [if_neg hm, if_neg (by simp [hm, e])]

theorem occ_nodup (cls : List (List Int)) (l : Int) : (occ cls l).Nodup := by
  unfold occ
  refine List.Pairwise.map _ (fun a b h => ?_) ((List.nodup_range).filter _)
  omega

theorem filter_drop {c : List Int} (hn : c.Nodup) (p q : Int → Bool) (a : Int) (hp : p a = true) (hq : q a = false) (h : ∀ x, x ≠ a → p x = q x) : (c.filter p).length = (c.filter q).length + (if a ∈ c then 1 else 0) := by
  induction c with
  | nil => simp
  | cons x t ih =>
    obtain ⟨h1, h2⟩ := List.nodup_cons.1 hn
    have ih := ih h2
    by_cases e : x = a
    · subst e
      have e1 : t.filter p = t.filter q := List.filter_congr fun y hy => h y (fun e => h1 (by rw [← e]; exact hy))
      rw [List.filter_cons_of_pos hp, List.filter_cons_of_neg (by simp [hq]), e1]
      simp
    · have em : (a ∈ x :: t) = (a ∈ t) := by simp [Ne.symm e]
      simp only [em]
      by_cases hx : q x = true
      · rw [List.filter_cons_of_pos (by rw [h x e]; exact hx), List.filter_cons_of_pos hx, List.length_cons, List.length_cons, ih]; omega
      · rw [List.filter_cons_of_neg (by rw [h x e]; exact hx), List.filter_cons_of_neg hx, ih]
theorem posN_more {D c : List Int} {l : Int} (hn : c.Nodup) (hl : l ∉ D) : posN (D ++ [l]) c = posN D c + (if l ∈ c then 1 else 0) := by
  refine filter_drop hn _ _ l (by simp) (by simpa using hl) (fun x hx => ?_)
  simp [hx]
theorem opnN_less {D c : List Int} {l : Int} (hn : c.Nodup) (hl : l ∉ D) : opnN D c = opnN (D ++ [l]) c + (if -l ∈ c then 1 else 0) := by
  refine filter_drop hn _ _ (-l) (by simpa using hl) (by simp) (fun x hx => ?_)
  have : ¬ (-x = l) := fun e => hx (by omega)
  simp [this]
theorem posN_le (D c : List Int) : posN D c ≤ c.length := List.length_filter_le _ _
theorem opnN_le (D c : List Int) : opnN D c ≤ c.length := List.length_filter_le _ _

theorem Looked.more {D T c : List Int} {l : Int} (h : Looked D T c) (hl : -l ∉ c) : Looked (D ++ [l]) T c := by
  have hx : ∀ x ∈ c, -x ∉ D → -x ∉ D ++ [l] := fun x hx hd hm => by
    rcases List.mem_append.1 hm with hm | hm
    · exact hd hm
    · exact hl (by rw [← List.mem_singleton.1 hm, Int.neg_neg]; exact hx)
  rcases h with ⟨x, h1, h2⟩ | ⟨x, h1, y, h2, h3, h4, h5⟩ | ⟨x, h1, h2, h3⟩
  · exact .inl ⟨x, h1, List.mem_append_left _ h2⟩
  · exact .inr (.inl ⟨x, h1, y, h2, h3, hx x h1 h4, hx y h2 h5⟩)
  · exact .inr (.inr ⟨x, h1, hx x h1 h2, h3⟩)

theorem Inv.looks {cls : List (List Int)} {F : List Int} (hnd : ∀ c ∈ cls, c.Nodup) {D : List Int} : ∀ (ns : List Int) (S : St), Inv cls F S → Cnt cls D S → (∀ x ∈ D, x ∈ S.trail) → (∀ n ∈ ns, 0 ≤ n ∧ n < cls.length) →
    Inv cls F (ns.foldl lookIf S) ∧ Cnt cls D (ns.foldl lookIf S) ∧ (∀ x ∈ S.trail, x ∈ (ns.foldl lookIf S).trail) ∧ ((ns.foldl lookIf S).bad = -1 → S.bad = -1 ∧ ∀ n ∈ ns, Looked D (ns.foldl lookIf S).trail (cls.getD n.toNat []))
  | [], S, h, hc, hD, _ => ⟨h, hc, fun _ hx => hx, fun hb => ⟨hb, by simp⟩⟩
  | n :: t, S, h, hc, hD, hr => by
    have hn0 := hr n (by simp)
    rw [List.foldl_cons]
    by_cases hb : S.bad = -1
    · have e : lookIf S n = lookSt S n.toNat := by unfold lookIf; rw [if_pos hb]
      rw [e]
      obtain ⟨g1, g2, g3, g4⟩ := h.look hnd hc hD n.toNat (by omega)
      obtain ⟨k1, k2, k3, k4⟩ := Inv.looks hnd t _ g1 g2 (fun x hx => g3 x (hD x hx)) (fun x hx => hr x (by simp [hx]))
      refine ⟨k1, k2, fun x hx => k3 x (g3 x hx), fun hb2 => ?_⟩
      obtain ⟨b1, b2⟩ := k4 hb2
      obtain ⟨b3, b4⟩ := g4 b1
      refine ⟨b3, fun m hm => ?_⟩
      rcases List.mem_cons.1 hm with e | hm
      · rw [e]; exact b4.mono k3
      · exact b2 m hm
    · have e : lookIf S n = S := by unfold lookIf; rw [if_neg hb]
      rw [e]
      obtain ⟨k1, k2, k3, k4⟩ := Inv.looks hnd t S h hc hD (fun x hx => hr x (by simp [hx]))
      exact ⟨k1, k2, k3, fun hb2 => absurd (k4 hb2).1 hb⟩

end Go.Proofs.Ytfljggodnnpeiaa.Spr

namespace Go.Proofs.Ytfljggodnnpeiaa.Spr
open Go.RowKit Go.Proofs.Ytfljggodnnpeiaa.Lit

theorem look_pre (S : St) (n : Nat) : S.trail <+: (lookSt S n).trail := by
  unfold lookSt
  split
  · exact List.prefix_refl _
  · split
    · exact List.prefix_refl _
    · unfold unitSt
      split
      · rcases (putSt_fields S _ _).2.2.2.2.2.2.2 with e | e
        · rw [e]; exact List.prefix_refl _
        · rw [e]; exact List.prefix_append _ _
      · exact List.prefix_refl _
theorem looks_pre : ∀ (ns : List Int) (S : St), S.trail <+: (ns.foldl lookIf S).trail
  | [], _ => List.prefix_refl _
  | n :: t, S => by
    rw [List.foldl_cons]
    refine List.IsPrefix.trans ?_ (looks_pre t _)
    unfold lookIf
    split
    · exact look_pre S _
    · exact List.prefix_refl _
theorem begin_pre (S : St) : ∀ k, S.trail <+: (beginF S k).trail
  | 0 => List.prefix_refl _
  | k + 1 => by rw [beginF_succ]; exact (begin_pre S k).trans (look_pre _ _)
theorem pre_take {T T' : List Int} (h : T <+: T') {k : Nat} (hk : k ≤ T.length) : T'.take k = T.take k := by
  obtain ⟨t, rfl⟩ := h
  exact List.take_append_of_le_length hk

theorem Inv.same {cls : List (List Int)} {F : List Int} {S S' : St} (h : Inv cls F S) (hg : Good S') (h1 : S'.clauses = S.clauses) (h2 : S'.ids = S.ids) (h3 : S'.inn = S.inn) (h4 : S'.trail = S.trail) (h5 : S'.value = S.value) (h6 : S'.bad = S.bad) : Inv cls F S' := by
  have hv : ∀ l, vl S' l = vl S l := fun l => by unfold vl; rw [h2, h5]
  have hi : ∀ l, inAt S' l = inAt S l := fun l => by unfold inAt; rw [h2, h3]
  refine ⟨hg, h1.trans h.cl, ?_, fun l hl hk => ?_, fun l hl => ?_, by rw [h4]; exact h.nd, by rw [h4]; exact h.snd, by rw [h6]; exact h.bad⟩
  · intro c hc l hl
    rw [h2]; rw [h1] at hc; exact h.kn c hc l hl
  · rw [hi]; rw [h2] at hk; exact h.inn l hl hk
  · rw [h4, hv]; exact h.tv l hl

structure Runs (cls : List (List Int)) (F : List Int) (S : St) : Prop where
  inv : Inv cls F S
  cnt : Cnt cls (S.trail.take S.done.toNat) S
  lk : S.bad = -1 → ∀ n, n < cls.length → Looked (S.trail.take S.done.toNat) S.trail (cls.getD n [])

theorem wrap_up {a : Nat} (h : a ≤ 4611686018427387904) : wrap64 ((a : Int) + 1) = ((a + 1 : Nat) : Int) := by unfold wrap64; omega
theorem wrap_down {a : Nat} (h : a ≤ 4611686018427387904) : wrap64 (((a + 1 : Nat) : Int) - 1) = (a : Int) := by unfold wrap64; omega

theorem take_one {T : List Int} {k : Nat} (h : k < T.length) : T.take (k + 1) = T.take k ++ [T.getD k 0] := by
  rw [List.take_succ_eq_append_getElem h, List.getD_eq_getElem?_getD, List.getElem?_eq_getElem h]; rfl
theorem not_before {T : List Int} (hn : T.Nodup) {k : Nat} (h : k < T.length) : T.getD k 0 ∉ T.take k := by
  have h1 : (T.take (k + 1)).Nodup := hn.sublist (List.take_sublist _ _)
  rw [take_one h, List.nodup_append] at h1
  exact fun hm => h1.2.2 _ hm _ (by simp) rfl

set_option maxHeartbeats 1000000 in
theorem Runs.step {cls : List (List Int)} {F : List Int} {S : St} (h : Runs cls F S) (hnd : ∀ c ∈ cls, c.Nodup) (hlen : ∀ c ∈ cls, c.length ≤ 4611686018427387903) (hg : goes S = true) : Runs cls F (stepSt S) ∧ (stepSt S).ids = S.ids ∧ S.trail <+: (stepSt S).trail := by
  have hG := h.inv.good
  obtain ⟨hb, hdl⟩ : S.bad = -1 ∧ S.done < S.trail.length := of_decide_eq_true hg
  obtain ⟨hp, hr⟩ := head_in hG hg
  have hL := stepSt_like (Like.refl hG) h.inv.kn hg _ _ hp hr
  have hd0 := hG.dn
  obtain ⟨d, hd⟩ : ∃ d : Nat, S.done = d := ⟨S.done.toNat, by omega⟩
  have hdn : d < S.trail.length := by omega
  have hdt : S.done.toNat = d := by omega
  have hlm : S.trail.getD d 0 ∈ S.trail := by rw [List.getD_eq_getElem?_getD, List.getElem?_eq_getElem hdn]; exact List.getElem_mem hdn
  have hfl := hG.tf _ hlm
  have hkl := hG.tk _ hlm
  have hkn : S.ids.contains (lv (-(S.trail.getD d 0))) = true := by rw [lv_neg hfl]; exact hkl
  have i1 := h.inv.inn _ hfl hkl
  have i2 := h.inv.inn _ (fm_neg hfl) hkn
  have hnb := not_before h.inv.nd hdn
  have hcnt := h.cnt
  have hlk := h.lk hb
  rw [hdt] at hcnt hlk
  have hdone : (stepSt S).done.toNat = d + 1 := by rw [stepSt_done]; omega
  generalize hl : S.trail.getD d 0 = l at *
  have hstep : stepSt S = (occ cls (-l)).foldl lookIf ((occ cls (-l)).foldl downOpn ((occ cls l).foldl upOn (stepA S))) := by
    unfold stepSt; rw [hdt, hl, i1, i2]
  have hlo : S.opn.length = cls.length := by rw [hG.ok.lo, h.inv.cl]
  have hln : S.on.length = cls.length := by rw [hG.ok.ln, h.inv.cl]
  have ro : ∀ x, ∀ n ∈ occ cls x, 0 ≤ n ∧ n < (cls.length : Int) := fun x n hn => by have := (mem_occ cls x n).1 hn; exact ⟨this.1, this.2.1⟩
  obtain ⟨u1, u2, u3, u4, u5, u6, u7, u8, u9⟩ := fold_up (occ cls l) (stepA S) (occ_nodup _ _) (fun n hn => by have := ro l n hn; show 0 ≤ n ∧ n < (S.on.length : Int); omega)
  have gU : Good ((occ cls l).foldl upOn (stepA S)) := fold_all upOn Good _ (fun s n _ hs => hs.upOn n) _ ((Like.refl hG).stepA hg).good
  generalize hU : (occ cls l).foldl upOn (stepA S) = U at *
  obtain ⟨v1, v2, v3, v4, v5, v6, v7, v8, v9⟩ := fold_down (occ cls (-l)) U (occ_nodup _ _) (fun n hn => by have := ro (-l) n hn; rw [u2]; show 0 ≤ n ∧ n < (S.opn.length : Int); omega)
  have gV : Good ((occ cls (-l)).foldl downOpn U) := fold_all downOpn Good _ (fun s n _ hs => hs.downOpn n) _ gU
  generalize hV : (occ cls (-l)).foldl downOpn U = V at *
  have iV : Inv cls F V := h.inv.same gV (v3.trans u3) (v4.trans u4) (v5.trans u5) (v6.trans u6) (v9.trans u9) (v8.trans u8)
  have tV : V.trail = S.trail := v6.trans u6
  have bV : V.bad = -1 := (v8.trans u8).trans hb
  have cV : Cnt cls (S.trail.take d ++ [l]) V := by
    constructor
    · intro n hn
      have hm := getD_mem hn
      have h1 := hcnt.on n hn
      rw [v2, u1 n]
      show (if (n : Int) ∈ occ cls l then wrap64 (S.on.getD n 0 + 1) else S.on.getD n 0) = _
      rw [h1, posN_more (hnd _ hm) hnb]
      have hle := posN_le (S.trail.take d) (cls.getD n [])
      have hle2 := hlen _ hm
      have hiff : (n : Int) ∈ occ cls l ↔ l ∈ cls.getD n [] := by rw [mem_occ, Int.toNat_natCast]; exact ⟨fun h => h.2.2, fun h => ⟨by omega, by omega, h⟩⟩
      by_cases e : l ∈ cls.getD n []
      · rw [if_pos (hiff.2 e), if_pos e, wrap_up (by omega)]
      · rw [if_neg (fun h => e (hiff.1 h)), if_neg e]; rfl
    · intro n hn
      have hm := getD_mem hn
      have h1 := hcnt.opn n hn
      rw [v1 n, u2]
      show (if (n : Int) ∈ occ cls (-l) then wrap64 (S.opn.getD n 0 - 1) else S.opn.getD n 0) = _
      have hle := opnN_le (S.trail.take d ++ [l]) (cls.getD n [])
      have hle2 := hlen _ hm
      rw [h1, opnN_less (hnd _ hm) hnb]
      have hiff : (n : Int) ∈ occ cls (-l) ↔ -l ∈ cls.getD n [] := by rw [mem_occ, Int.toNat_natCast]; exact ⟨fun h => h.2.2, fun h => ⟨by omega, by omega, h⟩⟩
      by_cases e : -l ∈ cls.getD n []
      · rw [if_pos (hiff.2 e), if_pos e, wrap_down (by omega)]
      · rw [if_neg (fun h => e (hiff.1 h)), if_neg e]; rfl
  have dV : ∀ x ∈ S.trail.take d ++ [l], x ∈ V.trail := fun x hx => by
    rw [tV]
    rcases List.mem_append.1 hx with hx | hx
    · exact List.mem_of_mem_take hx
    · rw [List.mem_singleton.1 hx]; exact hlm
  obtain ⟨w1, w2, w3, w4⟩ := Inv.looks hnd (occ cls (-l)) V iV cV dV (ro (-l))
  have wp := looks_pre (occ cls (-l)) V
  rw [← hstep] at w1 w2 w3 w4 wp
  rw [tV] at wp w3
  have htake : (stepSt S).trail.take (stepSt S).done.toNat = S.trail.take d ++ [l] := by
    rw [hdone, pre_take wp (by omega), take_one hdn, hl]
  refine ⟨⟨w1, by rw [htake]; exact w2, fun hb2 n hn => ?_⟩, hL.ids, wp⟩
  rw [htake]
  obtain ⟨_, w5⟩ := w4 hb2
  by_cases e : -l ∈ cls.getD n []
  · have := w5 n ((mem_occ _ _ _).2 ⟨by omega, by omega, by rw [Int.toNat_natCast]; exact e⟩)
    rw [Int.toNat_natCast] at this
    exact this
  · exact ((hlk n hn).mono w3).more e

theorem Runs.run {cls : List (List Int)} {F : List Int} (hnd : ∀ c ∈ cls, c.Nodup) (hlen : ∀ c ∈ cls, c.length ≤ 4611686018427387903) : ∀ (k : Nat) {S : St}, Runs cls F S →
    Runs cls F (runF k S) ∧ (runF k S).ids = S.ids ∧ S.trail <+: (runF k S).trail ∧ ((S.ids.length : Int) - S.done < k → goes (runF k S) = false)
  | 0, S, h => ⟨h, rfl, List.prefix_refl _, fun hk => by have := h.inv.good.dn; have := h.inv.good.ok.trail_ids; omega⟩
  | k + 1, S, h => by
    unfold runF
    by_cases hg : goes S = true
    · rw [if_pos hg]
      obtain ⟨h1, h2, h3⟩ := h.step hnd hlen hg
      obtain ⟨g1, g2, g3, g4⟩ := Runs.run hnd hlen k h1
      refine ⟨g1, g2.trans h2, h3.trans g3, fun hk => g4 ?_⟩
      rw [h2, stepSt_done]; omega
    · rw [if_neg hg]
      exact ⟨h, rfl, List.prefix_refl _, fun _ => by simpa using hg⟩
theorem Runs.closed {cls : List (List Int)} {F : List Int} {S : St} (h : Runs cls F S) (hb : S.bad = -1) (hg : goes S = false) (hF : ∀ l ∈ F, l ∈ S.trail) : Closed cls F (· ∈ S.trail) := by
  have hd : ¬ (S.bad = -1 ∧ S.done < S.trail.length) := of_decide_eq_false hg
  have hall : S.trail.take S.done.toNat = S.trail := List.take_of_length_le (by have := h.inv.good.dn; omega)
  refine ⟨hF, fun l hl hn => ?_, fun c hc => ?_⟩
  · have hf := h.inv.good.tf l hl
    have h1 := (h.inv.tv l hf).1 hl
    have h2 := (h.inv.tneg hf).1 hn
    omega
  · obtain ⟨n, hn, he⟩ := List.getElem_of_mem hc
    have := h.lk hb n hn
    rw [hall, List.getD_eq_getElem?_getD, List.getElem?_eq_getElem hn, Option.getD_some, he] at this
    rcases this with h1 | h1 | ⟨l, h1, h2, h3⟩
    · exact .inl h1
    · exact .inr h1
    · exact .inl ⟨l, h1, h3.resolve_right h2⟩

theorem puts_inv {cls : List (List Int)} {F : List Int} : ∀ (G : List Int) (S : St), Inv cls F S → Cnt cls [] S → S.done = 0 → S.bad = -1 → (∀ l ∈ G, fm l = true ∧ l ∈ F) →
    ((putsF S G).2 = true → Inv cls F (putsF S G).1 ∧ Cnt cls [] (putsF S G).1 ∧ (putsF S G).1.done = 0 ∧ (putsF S G).1.bad = -1 ∧ S.trail <+: (putsF S G).1.trail ∧ ∀ l ∈ G, l ∈ (putsF S G).1.trail) ∧ ((putsF S G).2 = false → Clash cls F)
  | [], S, h, hc, hd, hb, _ => ⟨fun _ => ⟨h, hc, hd, hb, List.prefix_refl _, by simp [putsF]⟩, fun he => by cases he⟩
  | l :: t, S, h, hc, hd, hb, hG => by
    obtain ⟨hf, hl⟩ := hG l (by simp)
    unfold putsF
    by_cases hp : putOk S l = true
    · rw [if_pos hp]
      have hv : vl S l ≠ -1 := by have := of_decide_eq_true hp; rwa [vl_place h.good.ok] at this
      obtain ⟨e1, e2, e3, e4, e5, _, _, e8⟩ := putSt_fields S l (-1)
      have hi := h.put l (-1) hf (.fact hl)
      have hcp : Cnt cls [] (putSt S l (-1)) := ⟨by rw [e3]; exact hc.on, by rw [e2]; exact hc.opn⟩
      obtain ⟨g1, g2⟩ := puts_inv t _ hi hcp (e4.trans hd) (e5.trans hb) (fun x hx => hG x (by simp [hx]))
      refine ⟨fun he => ?_, g2⟩
      obtain ⟨k1, k2, k3, k4, k5, k6⟩ := g1 he
      have hpre : S.trail <+: (putSt S l (-1)).trail := by
        rcases e8 with e | e
        · rw [e]; exact List.prefix_refl _
        · rw [e]; exact List.prefix_append _ _
      refine ⟨k1, k2, k3, k4, hpre.trans k5, fun x hx => ?_⟩
      rcases List.mem_cons.1 hx with e | hx
      · rw [e]
        refine k5.subset ?_
        rw [put_trail h.good.ok]
        by_cases h0 : vl S l = 0
        · rw [if_pos h0]; simp
        · rw [if_neg h0, h.tv l hf]
          rcases vl_cases h.good.ok l with e | e | e
          · exact e
          · exact absurd e hv
          · exact absurd e h0
      · exact k6 x hx
    · rw [if_neg hp]
      refine ⟨fun he => (by cases he), fun _ => .inl ⟨l, .fact hl, h.snd _ ?_⟩⟩
      have hv : ¬ (vl (placeSt S l) l ≠ -1) := of_decide_eq_false (Bool.eq_false_iff.2 hp)
      rw [vl_place h.good.ok] at hv
      exact (h.tneg hf).2 (by omega)

theorem Built.inv {S : St} {cls : List (List Int)} (h : Built S cls) (F : List Int) : Inv cls F S ∧ Cnt cls [] S := by
  have hok := h.ok
  have hi : ∀ c ∈ S.inn, ∀ n ∈ c, 0 ≤ n ∧ n < (S.clauses.length : Int) := fun c hc n hn => by
    obtain ⟨p, hp, he⟩ := List.getElem_of_mem hc
    obtain ⟨l, h1, h2, h3⟩ := h.lit p hp
    have h4 := h.inn l h1 h2
    unfold inAt at h4
    rw [h3, Int.toNat_natCast, List.getD_eq_getElem?_getD, List.getElem?_eq_getElem hp, Option.getD_some, he] at h4
    rw [h4, mem_occ] at hn
    rw [h.cl]; exact ⟨hn.1, hn.2.1⟩
  have hg : Good S := ⟨hok, by rw [h.tr]; simp, by rw [h.tr]; simp, fun c hc l hl => (h.kn c (by rw [← h.cl]; exact hc) l hl).1, hi, by rw [h.dn, h.tr]; simp⟩
  have hv : ∀ l, vl S l = 0 := fun l => by
    unfold vl
    rw [h.val]
    have : (List.replicate S.ids.length (0 : Int)).getD (S.ids.idxOf (lv l)) 0 = 0 := by
      rw [List.getD_eq_getElem?_getD, List.getElem?_replicate]; split <;> rfl
    rw [this]
    split
    · split <;> rfl
    · rfl
  refine ⟨⟨hg, h.cl, fun c hc l hl => (h.kn c (by rw [← h.cl]; exact hc) l hl).2, h.inn, fun l _ => ?_, by rw [h.tr]; simp, by rw [h.tr]; simp, fun hb => absurd h.bd hb⟩, fun n hn => ?_, fun n hn => ?_⟩
  · rw [h.tr, hv]; simp
  · rw [h.on, List.getD_eq_getElem?_getD, List.getElem?_replicate]
    have : posN [] (cls.getD n []) = 0 := by unfold posN; simp
    rw [this]; split <;> rfl
  · rw [h.opn, List.getD_eq_getElem?_getD, List.getElem?_map, List.getD_eq_getElem?_getD, List.getElem?_eq_getElem hn]
    unfold opnN
    have : cls[n].filter (fun x => !([] : List Int).contains (-x)) = cls[n] := List.filter_eq_self.2 (by simp)
    rw [Option.getD_some, this]; rfl

theorem tidy_clauses (cs : List (List Int)) (hc : ∀ c ∈ cs, ∀ l ∈ c, fm l = true) : (∀ c ∈ cs.map tidyL, ∃ c' ∈ cs, ∀ x, x ∈ c ↔ x ∈ c') ∧ ∀ c ∈ cs, ∃ c' ∈ cs.map tidyL, ∀ x, x ∈ c ↔ x ∈ c' := by
  have he : ∀ c ∈ cs, ∀ x, x ∈ tidyL c ↔ x ∈ c := fun c h x => by rw [mem_tidy]; exact ⟨fun h => h.1, fun h2 => ⟨h2, hc c h x h2⟩⟩
  constructor
  · intro c h
    obtain ⟨c', h1, rfl⟩ := List.mem_map.1 h
    exact ⟨c', h1, he c' h1⟩
  · intro c h
    exact ⟨_, List.mem_map_of_mem h, fun x => (he c h x).symm⟩
theorem tidy_len (c : List Int) : (tidyL c).length ≤ 2097152 := by
  have hr := tidy_rising c
  have hf : ∀ l ∈ tidyL c, fm l = true := fun l hl => ((mem_tidy _ l).1 hl).2
  have hn : ((tidyL c).map ix).Nodup := List.Pairwise.map _ (fun a b h => by omega) hr
  have := nodup_le 2097152 _ hn (fun v hv => by
    obtain ⟨l, hl, rfl⟩ := List.mem_map.1 hv
    have h1 := fm_true (hf l hl)
    have h0 := hf l hl
    unfold ix
    rw [if_pos h0]
    split <;> omega)
  simpa using this

theorem closed_up (cs : List (List Int)) (F : List Int) (hf : ∀ l ∈ F, fm l = true) (hc : ∀ c ∈ cs, ∀ l ∈ c, fm l = true) :
    ((closedSt cs F).2 = true → Runs (cs.map tidyL) F (closedSt cs F).1 ∧ Closed cs F (· ∈ (closedSt cs F).1.trail) ∧ (∀ l, l ∈ (closedSt cs F).1.trail ↔ UP cs F l) ∧ (∀ l, fm l = true → (vl (closedSt cs F).1 l = 1 ↔ UP cs F l)) ∧ ¬ Clash cs F) ∧ ((closedSt cs F).2 = false → Clash cs F) := by
  obtain ⟨t1, t2⟩ := tidy_clauses cs hc
  have hB := newF_built cs cs.length (Nat.le_refl _)
  rw [List.take_length] at hB
  obtain ⟨i0, c0⟩ := hB.inv F
  have hnd : ∀ c ∈ cs.map tidyL, c.Nodup := fun c h => by obtain ⟨c', _, rfl⟩ := List.mem_map.1 h; exact tidy_nodup _
  have hlen : ∀ c ∈ cs.map tidyL, c.length ≤ 4611686018427387903 := fun c h => by obtain ⟨c', _, rfl⟩ := List.mem_map.1 h; have := tidy_len c'; omega
  obtain ⟨p1, p2⟩ := puts_inv F _ i0 c0 hB.dn hB.bd (fun l hl => ⟨hf l hl, hl⟩)
  unfold closedSt
  by_cases hp : (putsF (newF cs cs.length) F).2 = true
  · rw [if_pos hp]
    obtain ⟨j1, j2, j3, j4, _, j6⟩ := p1 hp
    generalize (putsF (newF cs cs.length) F).1 = S at *
    obtain ⟨b1, b2, _, b4, b5⟩ := j1.begin_ hnd j2 (cs.map tidyL).length (Nat.le_refl _)
    have bp := begin_pre S (cs.map tidyL).length
    have he : beginSt S = beginF S (cs.map tidyL).length := by unfold beginSt; rw [j1.cl]
    rw [← he] at b1 b2 b4 b5 bp
    have hz : (beginSt S).done.toNat = 0 := by rw [b5, j3]; rfl
    have hR : Runs (cs.map tidyL) F (beginSt S) := ⟨b1, by rw [hz]; simpa using b2, fun hb n hn => by rw [hz]; simpa using b4 hb n hn⟩
    obtain ⟨r1, r2, r3, r4⟩ := hR.run hnd hlen (fuel (beginSt S))
    have hgo : goes (ranSt S) = false := r4 (by have := hR.inv.good.dn; unfold fuel; omega)
    change Runs (cs.map tidyL) F (ranSt S) at r1
    constructor
    · intro hd
      have hbad : (ranSt S).bad = -1 := of_decide_eq_true hd
      have hC := r1.closed hbad hgo (fun l hl => r3.subset (bp.subset (j6 l hl)))
      have hC' : Closed cs F (· ∈ (ranSt S).trail) := ⟨hC.facts, hC.con, fun c hcm => by
        obtain ⟨c', h1, h2⟩ := t2 c hcm
        rcases hC.cl c' h1 with ⟨x, hx, hx2⟩ | ⟨x, hx, y, hy, hr⟩
        · exact .inl ⟨x, (h2 x).2 hx, hx2⟩
        · exact .inr ⟨x, (h2 x).2 hx, y, (h2 y).2 hy, hr⟩⟩
      have hT : ∀ l, l ∈ (ranSt S).trail ↔ UP cs F l := fun l => ⟨fun h => (r1.inv.snd l h).mono t1 (fun _ h => h), fun h => hC'.up h⟩
      exact ⟨r1, hC', hT, fun l hl => ((r1.inv.tv l hl).symm).trans (hT l), hC'.no_clash⟩
    · intro hd
      have hbad : ¬ (ranSt S).bad = -1 := of_decide_eq_false hd
      exact (r1.inv.bad hbad).mono t1 (fun _ h => h)
  · rw [if_neg hp]
    exact ⟨fun h => absurd h hp, fun h => (p2 h).mono t1 (fun _ h => h)⟩

end Go.Proofs.Ytfljggodnnpeiaa.Spr
