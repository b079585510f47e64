/- Part of the proof of TrimRight: what the law uses of the text TrH. -/
import Derived.Test.YtfljggodnnpeiaaZRJJoin
import Derived.Test.YtfljggodnnpeiaaZRTrA
namespace Go.Proofs.Ytfljggodnnpeiaa.Trm
open Go.RowKit Go.Maps Go.Shelf Go.Proofs Go.Proofs.Ytfljggodnnpeiaa.Lit Go.Proofs.Ytfljggodnnpeiaa.Spr
set_option linter.unusedVariables false
set_option linter.unusedSimpArgs false

def VC (w : World) (A : Option Addr) (xs : List Value) : Prop := ∀ k, k < xs.length → ∃ ad, A = some ad ∧ w.cell? (ad.add k) = some (xs.getD k (.slice none 0 0))
theorem VC.below {w w1 : World} {A : Option Addr} {xs : List Value} (h : VC w A xs) (hb : Below w.heap.size w w1) : VC w1 A xs := fun k hk => by
  obtain ⟨ad, e, hc⟩ := h k hk
  exact ⟨ad, e, (hb.cell (World.block_lt_of_cell? w _ hc)).trans hc⟩
def RV (w : World) (A : Option Addr) (cs : List (List Value)) : Prop := ∀ k, k < cs.length → ∃ ad A1 c1, A = some ad ∧ w.cell? (ad.add k) = some (.slice A1 (cs.getD k []).length c1) ∧ VC w A1 (cs.getD k []) ∧ ∀ u ∈ cs.getD k [], u.oneCell' = true
theorem append_none (t ty : TypeId) (i : TypeInfo) (ht : Try.prog.underlying t = some (.slice 25)) (hi : Try.prog.info? 25 = some i) (base a : Option Addr) (n cap c : Nat) (hc : n ≤ cap) (w : World) :
    (Builtin.append_ #[t, t] ty #[.slice base n cap, .slice a 0 c]).run Try.prog w = .ok (.slice base n cap) w := by
  have h0 : (Builtin.firstCells i.size 0 (.slice a 0 c)).run Try.prog w = .ok (#[] : Array Value) w := by
    cases a with
    | none => exact run_firstCells_none w i.size 0 0 c
    | some ad => exact run_firstCells_some w i.size 0 ad 0 c [] (by simp) (by simp)
  cases base <;> simp [Builtin.append_, run_underlying ht, sizeOf, typeInfo, hi, Builtin.lenOf, h0, hc, storeCells]

set_option maxHeartbeats 1000000 in
set_option maxRecDepth 100000 in
theorem grow_nil (n : Nat) (h0 : 0 < n) (h : n * 24 ≤ 281474976710656) (w : World) :
    Calls Try.prog 131 #[.slice none 0 0, .int .i64 n] w fun e w' => ∃ cap, e = .returned (.slice (some ⟨w.heap.size, 0, none⟩) 0 cap) ∧ n ≤ cap ∧ w'.ownsRow w.heap.size 25 1 (.slice (some ⟨w.heap.size, 0, none⟩) 0 cap) 0 [] ∧ Below w.heap.size w w' := by
  obtain ⟨i3, hi3, z31, z32, z33⟩ := info_parts infoI
  have hold : (Builtin.firstCells i3.size 0 (.slice none 0 0)).run Try.prog w.drew = .ok (#[] : Array Value) w.drew := run_firstCells_none w.drew i3.size 0 0 0
  have hrz : ∀ ty, (Builtin.append_ #[22, 3] ty #[.slice none 0 0, .int .i64 n]).run Try.prog w = _ := fun ty =>
    Lib.run_append_grow_zeros w 22 3 ty 25 i3 _ .i64 .i64 Try.underlying22 Try.underlying3 hi3 z31 none 0 0 [] hold n h0 (by omega) (by omega) (by omega) (by rw [z33]; omega) (by
      unfold Builtin.nextslicecap
      rw [if_pos (by omega), z33, Nat.zero_add]; exact h)
  rw [Nat.zero_add] at hrz
  have hGn : n ≤ grownCap w n 0 25 := grownCap_ge w _ _ _
  have hGm : grownCap w n 0 25 ≤ maxLen := grownCap_le_maxLen w n 0 25 (by unfold maxLen; omega)
  obtain ⟨G, hG⟩ : ∃ G, G = grownCap w n 0 25 := ⟨_, rfl⟩
  rw [← hG] at hrz hGn hGm
  have HGm := Lib.hid hGm
  unfold maxLen at hGm
  obtain ⟨cur, hcur⟩ : ∃ cur, cur = (#[] : Array Value) ++ Builtin.zeroCells (Value.slice none 0 0).cells n ++ Builtin.zeroCells (Value.slice none 0 0).cells (G - n) := ⟨_, rfl⟩
  have hcs : cur.size = G * 1 := by rw [hcur]; simp [Builtin.zeroCells, Value.cells]; omega
  have hrz2 : ∀ ty, (Builtin.append_ #[22, 3] ty #[.slice none 0 0, .int .i64 n]).run Try.prog w = .ok (.slice (some ⟨w.heap.size, 0, none⟩) n G) (w.drew.alloc (.cells cur 25)) := fun ty => by rw [hrz ty, hcur]
  have HCs := Lib.hid hcs
  have h1 : ¬ ((n : Int) < 0) := by omega
  have h4 : (n : Int) > 0 := by omega
  clear hrz hG hcur hcs hold
  go_enter Try.func131, Try.ntmps131
  have HR := Lib.hid hrz2
  clear hrz2
  go_wp2_with (at_builtin; refine wpList_append_eq rfl (.tmp 20) (.tmp 21) #[22, 3] rfl _ _ _ rfl rfl _ _ (HR.out _) ?_)
  go_ret
  refine ⟨G, rfl, hGn, ⟨rfl, .inr ⟨w.heap.size, G, cur, rfl, Nat.le_refl _, ?_, Nat.zero_le _, HGm.out, HCs.out, by simp⟩⟩, ?_⟩
  · show (w.heap.push _)[w.heap.size]? = some _
    exact Array.getElem?_push_size
  · exact (drawn_below w.heap.size w 1).alloc (by simp) _

def GrowPost (w : World) (n : Nat) (e : Ending) (w' : World) : Prop := ∃ D G, e = .returned (.slice D 0 G) ∧ n ≤ G ∧ w'.ownsRow w.heap.size 25 1 (.slice D 0 G) 0 [] ∧ Below w.heap.size w w' ∧ (0 < n → ∃ g, D = some ⟨g, 0, none⟩)
theorem grow_any (n : Nat) (h : n * 24 ≤ 281474976710656) (w : World) : Calls Try.prog 131 #[.slice none 0 0, .int .i64 n] w (GrowPost w n) := by
  by_cases h0 : 0 < n
  · exact (grow_nil n h0 h w).mono fun e w' ⟨cap, h1, h2, h3, h4⟩ => ⟨_, cap, h1, h2, h3, h4, fun _ => ⟨_, rfl⟩⟩
  · obtain rfl : n = 0 := by omega
    go_enter Try.func131, Try.ntmps131
    go_wp2
    go_ret
    exact ⟨none, 0, rfl, Nat.le_refl _, ⟨rfl, .inl ⟨rfl, rfl⟩⟩, Below.refl _ _, fun h => absurd h (by omega)⟩

theorem take_flat {ls : List (List Value)} {k : Nat} (h : k < ls.length) : (ls.take (k + 1)).flatten = (ls.take k).flatten ++ ls.getD k [] := by
  rw [List.take_succ_eq_append_getElem h, List.flatten_append, List.getD_eq_getElem?_getD, List.getElem?_eq_getElem h]
  simp
theorem flat_le (ls : List (List Value)) (k : Nat) : (ls.take k).flatten.length ≤ ls.flatten.length := by
  have h : ls.flatten = (ls.take k).flatten ++ (ls.drop k).flatten := by rw [← List.flatten_append, List.take_append_drop]
  rw [h, List.length_append]
  omega
theorem vc_news {w : World} {ad : Addr} {xs : List Value} (h : VC w (some ad) xs) : ∀ j u, xs[j]? = some u → w.cell? (ad.add j) = some u := fun j u hj => by
  have hlt : j < xs.length := (List.getElem?_eq_some_iff.1 hj).1
  obtain ⟨ad', e, hc⟩ := h j hlt
  cases e
  rw [hc, List.getD_eq_getElem?_getD, hj]; rfl
def ConcatPost (w : World) (ls : List (List Value)) (e : Ending) (w' : World) : Prop := ∃ v, e = .returned v ∧ w'.ownsRow w.heap.size 25 1 v ls.flatten.length ls.flatten ∧ Below w.heap.size w w'

set_option maxHeartbeats 4000000 in
set_option maxRecDepth 100000 in
theorem concat_any (A : Option Addr) (c : Nat) (ls : List (List Value)) (w : World) (hC : RV w A ls) (hl : ls.length ≤ 9223372036854775807) (h8 : ls.flatten.length * 24 ≤ 281474976710656) :
    Calls Try.prog 94 #[.slice A ls.length c] w (ConcatPost w ls) := by
  have HC := Lib.hid hC
  have hN : (ls.flatten.length : Int) ≤ 35184372088832 := by omega
  have HT := Lib.hid (fun k (h : k < ls.length) => take_flat (ls := ls) h)
  have HL := Lib.hid (flat_le ls)
  obtain ⟨i3, hi3, z31, z32, z33⟩ := info_parts infoI
  have Hi3 := Lib.hid (And.intro hi3 (And.intro z31 (And.intro z32 z33)))
  have HAn := Lib.hid (fun base a n cap c hc w ty => append_none 22 ty i3 Try.underlying22 hi3 base a n cap c hc w)
  clear hC hi3 z31 z32 z33
  unfold ConcatPost
  generalize hm : ls.length = m at *
  have Hm := Lib.hid hm
  clear hm
  have HAll := Lib.hid (show (ls.take m).flatten = ls.flatten by rw [List.take_of_length_le (by rw [Hm.out]; exact Nat.le_refl _)])
  generalize hF : ls.flatten = F at *
  have HF := Lib.hid hF
  clear hF
  have HG := Lib.hid (grow_any F.length (by omega) w)
  unfold GrowPost at HG
  go_enter Try.func94, Try.ntmps94
  go_wp2
  go_loop [3, 11] (fun s i => ∃ k : Nat, k ≤ m ∧ i = .int .i64 k ∧ s = .int .i64 ((ls.take k).flatten.length : Nat)) (fun _ i => m - (intOf i).toNat)
  case atStart => exact ⟨0, Nat.zero_le _, rfl, rfl⟩
  case round =>
    obtain ⟨k, hk, rfl, rfl⟩ := hrel
    have hle := HL.out k
    by_cases hlt : k < m
    · obtain ⟨ad, A0, c0, hA, hcell, hIC⟩ := HC.out k (by rw [Hm.out]; exact hlt)
      subst hA
      have ht := HT.out k hlt
      have hle2 := HL.out (k + 1)
      rw [ht, List.length_append] at hle2
      have HTk := Lib.hid ht
      clear ht hIC
      generalize (ls.take k).flatten = G at *
      generalize ls.getD k [] = z at *
      have hng : ¬ ((G.length : Int) + (z.length : Int) < 0) := by omega
      go_wp2
      go_round
      case rel => exact ⟨k + 1, by omega, by go_num, by rw [HTk.out, List.length_append]; go_num⟩
      case measure => simp [intOf]; omega
    · obtain rfl : k = m := by omega
      rw [HAll.out]
      go_wp2_with (go_at_call 131; refine HG.out.mono ?_; rintro e w1 ⟨D, G, rfl, hGl, ho1, hb1, hD⟩; have HO1 := Lib.hid ho1; have HB1 := Lib.hid hb1; have HD := Lib.hid hD; clear ho1 hb1 hD)
      go_loopw [6, 27] (fun u i wr => ∃ k1 : Nat, k1 ≤ k ∧ i = .int .i64 k1 ∧ u = .slice D (ls.take k1).flatten.length G ∧ Hid (wr.ownsRow w.heap.size 25 1 (.slice D (ls.take k1).flatten.length G) (ls.take k1).flatten.length ((ls.take k1).flatten)) ∧ Hid (Below w.heap.size w wr)) (fun _ i _ => k - (intOf i).toNat)
      case atStart => exact ⟨0, Nat.zero_le _, rfl, rfl, HO1.out, HB1.out⟩
      case round =>
        obtain ⟨k1, hk1, rfl, rfl, ho, hb⟩ := hrel
        have hle1 := HL.out k1
        by_cases hlt1 : k1 < k
        · obtain ⟨ad, A0, c0, hA, hcell, hIC⟩ := HC.out k1 (by rw [Hm.out]; exact hlt1)
          subst hA
          replace hcell := (hb.out.cell (World.block_lt_of_cell? w _ hcell)).trans hcell
          have hIC2 := hIC.1.below hb.out
          have h1C := hIC.2
          have ht := HT.out k1 hlt1
          have hle2 := HL.out (k1 + 1)
          rw [ht, List.length_append] at hle2
          have HTk := Lib.hid ht
          have HIC := Lib.hid hIC2
          have H1C := Lib.hid h1C
          clear ht hIC hIC2 hk hlt h1C
          generalize (ls.take k1).flatten = Q at *
          generalize ls.getD k1 [] = z at *
          by_cases hz : z.length = 0
          · obtain rfl : z = [] := List.eq_nil_of_length_eq_zero hz
            have hQG : Q.length ≤ G := by omega
            have HR := Lib.hid (fun ty => HAn.out D A0 Q.length G c0 hQG wr ty)
            have HTn := Lib.hid (show (ls.take (k1 + 1)).flatten = Q by rw [HTk.out, List.append_nil])
            go_wp2_with (at_builtin; refine wpList_append_eq rfl (.tmp 31) (.tmp 32) #[22, 22] rfl _ _ _ rfl rfl _ _ (HR.out _) ?_)
            go_roundw
            case rel => exact ⟨k1 + 1, by omega, by go_num, by rw [HTn.out], by rw [HTn.out]; exact ho.out, hb.out⟩
            case measure => simp [intOf]; omega
          · obtain ⟨g, hDg⟩ := HD.out (by omega)
            subst hDg
            obtain ⟨az, hA0, _⟩ := HIC.out 0 (by omega)
            subst hA0
            go_wp2_with (at_builtin; refine wpList_append_own_spare _ rfl (.tmp 31) (.tmp 32) 22 rfl w.heap.size 25 i3 1 Try.underlying22 Hi3.out.1 Hi3.out.2.2.1 g Q.length G _ rfl ho.out az z.length c0 (z) rfl (by rw [Nat.mul_one]) (vc_news HIC.out) H1C.out ?_ ?_; (omega); intro w2 hown2 hgrow2; have HO2 := Lib.hid hown2; have HB2 := Lib.hid (hb.out.grown hgrow2 hb.out.size (own_base ho.out)); clear hown2 hgrow2)
            go_roundw
            case rel => exact ⟨k1 + 1, by omega, by go_num, by rw [HTk.out, List.length_append], by rw [HTk.out, List.length_append, show (Q ++ z) = Q ++ z from rfl]; exact HO2.out, HB2.out⟩
            case measure => simp [intOf]; omega
        · obtain rfl : k1 = k := by omega
          rw [HAll.out] at ho ⊢
          go_wp2
          go_ret
          exact ⟨_, rfl, ho.out, hb.out⟩

end Go.Proofs.Ytfljggodnnpeiaa.Trm
