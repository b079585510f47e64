/- Part of the proof of TrimRight: what the law uses of the text UC. -/
import Derived.Test.YtfljggodnnpeiaaZRUA
import Derived.Lib.SlicesCompact
import Derived.Sort.Statements
import Derived.Ground.Names2Prog
import Derived.Shelf.Slices.CompactI
import Derived.Ground.SlgnProg
import Derived.Shelf.SlicesE.Compact
import Derived.Ground.SlgfProg
import Derived.Ground.SlsfProg
import Derived.Shelf.SlSortCmp.Whole1
import Derived.Test.YtfljggodnnpeiaaProg
import Derived.Sort.OwnSortedInts
import Derived.Lib.RowBridge
import Derived.Deep.DeepAppendRoom
namespace Go.Proofs.Ytfljggodnnpeiaa.Lit
open Go.RowKit
set_option linter.unusedVariables false

theorem ix_inj {a b : Int} (ha : fm a = true) (hb : fm b = true) (h : ix a = ix b) : a = b := by
  have h1 := fm_true ha
  have h2 := fm_true hb
  unfold ix at h
  rw [if_pos ha, if_pos hb] at h
  split at h <;> split at h <;> omega
theorem ix_ge {a : Int} (ha : fm a = true) : 0 ≤ ix a := by
  have h1 := fm_true ha
  unfold ix
  rw [if_pos ha]
  split <;> omega

def Rising (l : List Int) : Prop := l.Pairwise fun a b => ix a < ix b
def ins (x : Int) : List Int → List Int
  | [] => [x]
  | y :: t => if ix x < ix y then x :: y :: t else if ix x = ix y then y :: t else y :: ins x t
def tidyL (xs : List Int) : List Int := (xs.filter fm).foldr ins []

theorem mem_ins (x y : Int) (l : List Int) (hx : fm x = true) (hl : ∀ z ∈ l, fm z = true) : y ∈ ins x l ↔ y = x ∨ y ∈ l := by
  induction l with
  | nil => simp [ins]
  | cons z t ih =>
    have ih := ih (fun q hq => hl q (by simp [hq]))
    unfold ins
    split
    · simp
    · split
      · rename_i h
        have := ix_inj hx (hl z (by simp)) h
        subst this
        simp
      · simp only [List.mem_cons, ih]
        constructor
        · rintro (h | h | h) <;> simp [h]
        · rintro (h | h | h) <;> simp [h]
theorem rising_ins (x : Int) (l : List Int) (hx : fm x = true) (hl : ∀ z ∈ l, fm z = true) (h : Rising l) : Rising (ins x l) := by
  unfold Rising at *
  induction l with
  | nil => simp [ins]
  | cons z t ih =>
    have ih := ih (fun q hq => hl q (by simp [hq])) (List.pairwise_cons.1 h).2
    have h1 := (List.pairwise_cons.1 h).1
    unfold ins
    split
    · rename_i hlt
      refine List.pairwise_cons.2 ⟨fun a ha => ?_, h⟩
      rcases List.mem_cons.1 ha with rfl | ha
      · exact hlt
      · exact Int.lt_trans hlt (h1 a ha)
    · split
      · exact h
      · rename_i h2 h3
        refine List.pairwise_cons.2 ⟨fun a ha => ?_, ih⟩
        rcases (mem_ins x a t hx (fun q hq => hl q (by simp [hq]))).1 ha with rfl | ha
        · omega
        · exact h1 a ha
theorem fold_ins (l : List Int) (hl : ∀ z ∈ l, fm z = true) : Rising (l.foldr ins []) ∧ ∀ y, y ∈ l.foldr ins [] ↔ y ∈ l := by
  induction l with
  | nil => exact ⟨List.Pairwise.nil, fun y => Iff.rfl⟩
  | cons z t ih =>
    obtain ⟨h1, h2⟩ := ih (fun q hq => hl q (by simp [hq]))
    have hz := hl z (by simp)
    have ht : ∀ q ∈ t.foldr ins [], fm q = true := fun q hq => hl q (by simp [(h2 q).1 hq])
    refine ⟨rising_ins z _ hz ht h1, fun y => ?_⟩
    rw [List.foldr_cons, mem_ins z y _ hz ht, h2]
    simp
theorem tidy_rising (xs : List Int) : Rising (tidyL xs) := (fold_ins _ (fun z hz => by simpa using (List.mem_filter.1 hz).2)).1
theorem mem_tidy (xs : List Int) (y : Int) : y ∈ tidyL xs ↔ y ∈ xs ∧ fm y = true := by
  rw [tidyL, (fold_ins _ (fun z hz => by simpa using (List.mem_filter.1 hz).2)).2]
  simp
theorem rising_ext : ∀ (a b : List Int), Rising a → Rising b → (∀ y, y ∈ a ↔ y ∈ b) → a = b
  | [], [], _, _, _ => rfl
  | [], y :: t, _, _, h => by have := (h y).2 (by simp); simp at this
  | y :: t, [], _, _, h => by have := (h y).1 (by simp); simp at this
  | x :: s, y :: t, ha, hb, h => by
    have hx := (List.pairwise_cons.1 ha).1
    have hy := (List.pairwise_cons.1 hb).1
    have e : x = y := by
      have h1 := (h x).1 (by simp)
      have h2 := (h y).2 (by simp)
      rcases List.mem_cons.1 h1 with rfl | h1
      · rfl
      · rcases List.mem_cons.1 h2 with rfl | h2
        · rfl
        · have := hx y h2
          have := hy x h1
          omega
    subst e
    have := rising_ext s t (List.pairwise_cons.1 ha).2 (List.pairwise_cons.1 hb).2 (fun z => by
      constructor
      · intro hz
        rcases List.mem_cons.1 ((h z).1 (by simp [hz])) with rfl | h1
        · have := hx z hz; omega
        · exact h1
      · intro hz
        rcases List.mem_cons.1 ((h z).2 (by simp [hz])) with rfl | h1
        · have := hy z hz; omega
        · exact h1)
    rw [this]

theorem compact_sorted (zs ys : List Int) (hp : zs.Perm ys) (hf : ∀ z ∈ ys, fm z = true) (hs : ∀ i j, i < j → j < zs.length → ix zs[i]! ≤ ix zs[j]!) : Lib.compact zs = tidyL ys := by
  have hfz : ∀ z ∈ zs, fm z = true := fun z hz => hf z (hp.mem_iff.1 hz)
  have hg : ∀ j, j < zs.length → zs.toArray[j]! = zs[j]! := fun j hj => by simp
  have hm : ∀ j, j < zs.length → zs[j]! ∈ zs := fun j hj => by rw [getElem!_pos zs j hj]; exact List.getElem_mem _
  apply rising_ext
  · unfold Lib.compact Lib.compactUpTo Rising
    rw [List.pairwise_map]
    refine List.Pairwise.imp_of_mem (R := fun a b => a < b) ?_ (List.Pairwise.filter _ List.pairwise_lt_range)
    intro a b ha hb hab
    have hbl : b < zs.length := by simpa using (List.mem_filter.1 hb).1
    have hk := (List.mem_filter.1 hb).2
    have hne : zs.toArray[b]! ≠ zs.toArray[b - 1]! := by
      simp only [Lib.keeps, decide_eq_true_eq] at hk
      rcases hk with hk | hk
      · omega
      · exact hk
    rw [hg b hbl, hg (b - 1) (by omega)] at hne
    rw [hg a (by omega), hg b hbl]
    have h1 : ix zs[a]! ≤ ix zs[b - 1]! := by
      rcases Nat.lt_or_ge a (b - 1) with h | h
      · exact hs a (b - 1) h (by omega)
      · have : a = b - 1 := by omega
        rw [this]; exact Int.le_refl _
    have h2 := hs (b - 1) b (by omega) hbl
    have h3 : ix zs[b - 1]! ≠ ix zs[b]! := fun e => hne (ix_inj (hfz _ (hm _ (by omega))) (hfz _ (hm _ hbl)) e).symm
    omega
  · exact tidy_rising ys
  · intro y
    rw [mem_tidy]
    have e1 : y ∈ Lib.compact zs ↔ y ∈ zs := by
      unfold Lib.compact Lib.compactUpTo
      rw [List.mem_map]
      constructor
      · rintro ⟨j, hj, rfl⟩
        have hjl : j < zs.length := by simpa using (List.mem_filter.1 hj).1
        rw [hg j hjl]; exact hm j hjl
      · intro hy
        obtain ⟨j, hj, e⟩ := List.getElem_of_mem hy
        have key : ∀ n, ∀ j, j ≤ n → ∀ h : j < zs.length, zs[j] = y → ∃ a, a ∈ (List.range zs.length).filter (Lib.keeps zs.toArray) ∧ zs.toArray[a]! = y := by
          intro n
          induction n with
          | zero =>
            intro j hjn h e
            refine ⟨j, List.mem_filter.2 ⟨by simpa using h, by simp [Lib.keeps]; left; omega⟩, ?_⟩
            rw [hg j h, getElem!_pos zs j h, e]
          | succ n ih =>
            intro j hjn h e
            by_cases hk : Lib.keeps zs.toArray j = true
            · refine ⟨j, List.mem_filter.2 ⟨by simpa using h, hk⟩, ?_⟩
              rw [hg j h, getElem!_pos zs j h, e]
            · have hk' : ¬ (j = 0 ∨ zs.toArray[j]! ≠ zs.toArray[j - 1]!) := by simpa only [Lib.keeps, decide_eq_true_eq] using hk
              have hj0 : j ≠ 0 := fun h => hk' (.inl h)
              have he : zs.toArray[j]! = zs.toArray[j - 1]! := Classical.byContradiction fun h => hk' (.inr h)
              rw [hg j h, hg (j - 1) (by omega), getElem!_pos zs j h, getElem!_pos zs (j - 1) (by omega)] at he
              exact ih (j - 1) (by omega) (by omega) (by rw [← he]; exact e)
        exact key j j (Nat.le_refl _) hj e
    rw [e1]
    constructor
    · intro h
      have := hp.mem_iff.1 h
      exact ⟨this, hf y this⟩
    · intro h
      exact hp.mem_iff.2 h.1
theorem tidy_filter (xs : List Int) : tidyL (xs.filter fm) = tidyL xs := by simp [tidyL]

end Go.Proofs.Ytfljggodnnpeiaa.Lit

namespace Go.Proofs
open Go.Shelf
def Try.laysNm220_ren : Go.Shelf.Ren := ⟨fun | 20 => 111 | n => n, fun | 22 => 25 | 3 => 3 | 4 => 4 | 0 => 0 | n => n, fun | n => n⟩
theorem Try.laysNm220 : Go.Proofs.Lays2.n20 Try.prog Try.laysNm220_ren := {
  mixed := by kernel_rfl
  f20 := Try.func111.trans (congrArg some (by kernel_rfl))
  t0 := Try.underlying0
  a0 := Try.isAgg0
  z0 := Try.sizeOf0
  v0 := Try.zeroValue0
  t3 := Try.underlying3
  a3 := Try.isAgg3
  z3 := Try.sizeOf3
  v3 := Try.zeroValue3
  t4 := Try.underlying4
  a4 := Try.isAgg4
  z4 := Try.sizeOf4
  v4 := Try.zeroValue4
  t22 := Try.underlying25
  a22 := Try.isAgg25
  z22 := Try.sizeOf25
  v22 := Try.zeroValue25
  i3 := by kernel_rfl }
open Go.RowKit Go.Lib Go.Sort in
theorem Try.slices_Compact_int (blk off cap : Nat) (zs : List Int) (w : World) (hH : Holds (Value.int .i64) w blk off zs.toArray) (hsz : zs.length ≤ 9223372036854775807) (hcap : zs.length ≤ cap) :
    Calls Try.prog 111 #[.slice (some ⟨blk, off, none⟩) zs.length cap] w fun e w' => e = .returned (.slice (some ⟨blk, off, none⟩) (Lib.compact zs).length cap) ∧ ∃ q, w' = putRow (Value.int .i64) (Sort.ahead w q) blk off (Lib.compact zs ++ List.replicate (zs.length - (Lib.compact zs).length) 0).toArray := Any.slices_Compact_int Try.laysNm220 blk off cap zs w hH hsz hcap
def Try.laysSlF6_f109_ren : Go.Shelf.Ren := ⟨fun | 6 => 109 | 15 => 140 | 14 => 139 | 28 => 160 | 29 => 161 | 20 => 152 | 21 => 153 | 22 => 154 | 23 => 155 | 24 => 156 | 25 => 157 | 26 => 158 | 27 => 159 | 46 => 164 | 47 => 165 | 48 => 166 | 49 => 167 | 50 => 168 | 57 => 169 | n => n, fun | 22 => 25 | 24 => 3 | 25 => 82 | 3 => 3 | 39 => 149 | 0 => 0 | 53 => 159 | 55 => 162 | 4 => 4 | 46 => 168 | 45 => 167 | 50 => 135 | 5 => 5 | 9 => 9 | 66 => 176 | 70 => 180 | 76 => 182 | 77 => 138 | n => n, fun | n => n⟩
theorem Try.laysSlF6_f109 : Go.Proofs.SlLaysF.n6 Try.prog Try.laysSlF6_f109_ren := {
  mixed := by kernel_rfl
  f6 := ⟨Try.f109.name, by decide, Try.func109.trans (congrArg some (by kernel_rfl))⟩
  f14 := ⟨Try.f139.name, by decide, Try.func139.trans (congrArg some (by kernel_rfl))⟩
  f15 := Try.func140.trans (congrArg some (by kernel_rfl))
  f20 := ⟨Try.f152.name, by decide, Try.func152.trans (congrArg some (by kernel_rfl))⟩
  f21 := ⟨Try.f153.name, by decide, Try.func153.trans (congrArg some (by kernel_rfl))⟩
  f22 := ⟨Try.f154.name, by decide, Try.func154.trans (congrArg some (by kernel_rfl))⟩
  f23 := ⟨Try.f155.name, by decide, Try.func155.trans (congrArg some (by kernel_rfl))⟩
  f24 := ⟨Try.f156.name, by decide, Try.func156.trans (congrArg some (by kernel_rfl))⟩
  f25 := ⟨Try.f157.name, by decide, Try.func157.trans (congrArg some (by kernel_rfl))⟩
  f26 := ⟨Try.f158.name, by decide, Try.func158.trans (congrArg some (by kernel_rfl))⟩
  f27 := ⟨Try.f159.name, by decide, Try.func159.trans (congrArg some (by kernel_rfl))⟩
  f28 := Try.func160.trans (congrArg some (by kernel_rfl))
  f29 := Try.func161.trans (congrArg some (by kernel_rfl))
  f46 := ⟨Try.f164.name, by decide, Try.func164.trans (congrArg some (by kernel_rfl))⟩
  f47 := Try.func165.trans (congrArg some (by kernel_rfl))
  f48 := Try.func166.trans (congrArg some (by kernel_rfl))
  f49 := ⟨Try.f167.name, by decide, Try.func167.trans (congrArg some (by kernel_rfl))⟩
  f50 := ⟨Try.f168.name, by decide, Try.func168.trans (congrArg some (by kernel_rfl))⟩
  f57 := ⟨Try.f169.name, by decide, Try.func169.trans (congrArg some (by kernel_rfl))⟩
  t0 := Try.underlying0
  a0 := Try.isAgg0
  z0 := Try.sizeOf0
  v0 := Try.zeroValue0
  t3 := Try.underlying3
  a3 := Try.isAgg3
  z3 := Try.sizeOf3
  v3 := Try.zeroValue3
  t4 := Try.underlying4
  a4 := Try.isAgg4
  z4 := Try.sizeOf4
  v4 := Try.zeroValue4
  t5 := Try.underlying5
  a5 := Try.isAgg5
  z5 := Try.sizeOf5
  v5 := Try.zeroValue5
  t9 := Try.underlying9
  a9 := Try.isAgg9
  z9 := Try.sizeOf9
  v9 := Try.zeroValue9
  t22 := Try.underlying25
  a22 := Try.isAgg25
  z22 := Try.sizeOf25
  v22 := Try.zeroValue25
  a24 := Try.isAgg3
  z24 := Try.sizeOf3
  t25 := Try.underlying82
  a25 := Try.isAgg82
  z25 := Try.sizeOf82
  v25 := Try.zeroValue82
  t39 := Try.underlying149
  a39 := Try.isAgg149
  z39 := Try.sizeOf149
  v39 := Try.zeroValue149
  t45 := Try.underlying167
  a45 := Try.isAgg167
  z45 := Try.sizeOf167
  v45 := Try.zeroValue167
  t46 := Try.underlying168
  a46 := Try.isAgg168
  z46 := Try.sizeOf168
  v46 := Try.zeroValue168
  t50 := Try.underlying135
  a50 := Try.isAgg135
  z50 := Try.sizeOf135
  v50 := Try.zeroValue135
  t53 := Try.underlying159
  a53 := Try.isAgg159
  z53 := Try.sizeOf159
  v53 := Try.zeroValue159
  t55 := Try.underlying162
  a55 := Try.isAgg162
  z55 := Try.sizeOf162
  v55 := Try.zeroValue162
  t66 := Try.underlying176
  a66 := Try.isAgg176
  z66 := Try.sizeOf176
  v66 := Try.zeroValue176
  t70 := Try.underlying180
  a70 := Try.isAgg180
  z70 := Try.sizeOf180
  v70 := Try.zeroValue180
  t76 := Try.underlying182
  a76 := Try.isAgg182
  z76 := Try.sizeOf182
  v76 := Try.zeroValue182
  t77 := Try.underlying138
  a77 := Try.isAgg138
  z77 := Try.sizeOf138
  v77 := Try.zeroValue138 }
open Go.RowKit Go.Lib Go.Sort in
theorem Try.slices_SortFunc {α : Type} [Inhabited α] (enc : α → Value) (h1 : OneCell enc) (cf : α → α → Int) (hO : SWO (ltOf cf)) (g : Nat) (cb : Array Value) (blk off cap : Nat) (d : Array α) (w : World) (eg : ∀ args w, (callFunc g args).run Try.prog w = .ok (.enter g args) w) (hcmp : CmpLays1 Try.prog g cb enc cf blk off d.size w) (hH : Holds enc w blk off d) (hblk : blk < w.heap.size) (hsz : d.size < 4611686018427387904) :
    Calls Try.prog 109 #[.slice (some ⟨blk, off, none⟩) d.size cap, .func (.func g) #[] cb] w fun e w' =>
      e = .returned (.tuple #[]) ∧ ∃ d' n os, PermIn 0 d.size d d' ∧ SortedIn (ltOf cf) 0 d.size d' ∧ w' = sortWorld enc w blk off n d' os := Any.slices_SortFunc Try.laysSlF6_f109 enc h1 cf hO g cb blk off cap d w eg hcmp hH hblk hsz
end Go.Proofs

namespace Go.Proofs.Ytfljggodnnpeiaa.Lit
open Go.RowKit Go.Proofs.Ytfljggodnnpeiaa.Spr Go.Shelf Go.Proofs
set_option linter.unusedVariables false

def IC (w : World) (A : Option Addr) (xs : List Int) : Prop := ∀ k, k < xs.length → ∃ ad, A = some ad ∧ w.cell? (ad.add k) = some (.int .i64 (xs.getD k 0))
theorem IC.below {w w1 : World} {A : Option Addr} {xs : List Int} (h : IC w A xs) (hb : Below w.heap.size w w1) : IC w1 A xs := fun k hk => by
  obtain ⟨ad, e, hc⟩ := h k hk
  exact ⟨ad, e, (hb.cell (World.block_lt_of_cell? w _ hc)).trans hc⟩

def TidyPost (w : World) (xs : List Int) (e : Ending) (w' : World) : Prop := ∃ v, e = .returned v ∧ w'.ownsRow w.heap.size 3 1 v (ints .i64 (tidyL xs)).length (ints .i64 (tidyL xs)) ∧ Below w.heap.size w w'

theorem swo_ix : Sort.SWO (Go.Proofs.ltOf fun a b => ix a - ix b) where
  irrefl x := by simp [Go.Proofs.ltOf]
  trans x y z h1 h2 := by simp only [Go.Proofs.ltOf, decide_eq_true_eq] at *; omega
  ntrans x y z h1 h2 := by simp only [Go.Proofs.ltOf, decide_eq_false_iff_not] at *; omega

theorem enters86 : ∀ args w, (callFunc 110 args).run Try.prog w = .ok (.enter 110 args) w := enters_of Try.func110 (by kernel_rfl) rfl

theorem sort_row (B g cap : Nat) (cur : Array Value) (ys : List Int) (w : World) (hB : B ≤ g) (hb : w.heap[g]? = some (.cells cur 3 (0, 0))) (h1 : ys.length ≤ cap) (h2 : cap ≤ maxLen) (h3 : cur.size = cap * 1) (ht : cur.toList.take ys.length = ints .i64 ys) (hl : ys.length < 4611686018427387904) :
    Calls Try.prog 109 #[.slice (some ⟨g, 0, none⟩) ys.length cap, .func (.func 110) #[] #[]] w fun e w' =>
      e = .returned (.tuple #[]) ∧ ∃ zs : List Int, zs.length = ys.length ∧ zs.Perm ys ∧ (∀ i j, i < j → j < zs.length → ix zs[i]! ≤ ix zs[j]!) ∧ w.grownBy w' (some g) ∧ ∃ cur', w'.heap[g]? = some (.cells cur' 3 (0, 0)) ∧ cur'.size = cap * 1 ∧ cur'.toList.take zs.length = ints .i64 zs := by
  have hcmp : Go.Proofs.CmpReads Try.prog 110 #[] (Value.int .i64) (fun a b => ix a - ix b) g 0 ys.toArray.size w :=
    fun m os dk hs x y => (byIndex_any x y _).mono fun e w' ⟨he, hw⟩ => ⟨he, 0, hw.symm⟩
  have hc := Try.slices_SortFunc (Value.int .i64) (fun _ => rfl) (fun a b => ix a - ix b) swo_ix 110 #[] g 0 cap ys.toArray w enters86 hcmp.lays (holds_of_blockI hb ht) (Array.getElem?_eq_some_iff.1 hb).1 (by simpa using hl)
  refine hc.mono ?_
  rintro e w' ⟨rfl, d', n, os, hp, hs, rfl⟩
  obtain ⟨hsz, _, hperm⟩ := hp
  have hsz' : d'.size = ys.length := by simpa using hsz
  have hz : d'.toList.length = ys.length := by simpa using hsz'
  have hown := ownsRow_sortedI (w := w) (n := n) (os := os) (ss := ys) (ts := d'.toList) hz hB hb h1 h2 h3
  refine ⟨rfl, d'.toList, hz, ?_, ?_, grownBy_sortedI d', _, heap_sortedI d' hb, ?_, ?_⟩
  · have e1 : d'.extract 0 ys.toArray.size = d' := by
      rw [show ys.toArray.size = d'.size by simp [hsz']]; simp
    rw [e1] at hperm
    simpa using hperm
  · intro i j hij hj
    have := hs i j (Nat.zero_le _) hij (by simpa using (show j < ys.length by omega))
    simp only [Go.Proofs.ltOf, decide_eq_false_iff_not] at this
    have ei : d'[i]! = d'.toList[i]! := by rw [getElem!_pos d' i (by omega), getElem!_pos d'.toList i (by omega)]; simp
    have ej : d'[j]! = d'.toList[j]! := by rw [getElem!_pos d' j (by omega), getElem!_pos d'.toList j (by omega)]; simp
    rw [ei, ej] at this
    omega
  · simp [Sort.putCells, h3]
  · have := take_putCellsI cur d'.toList (by omega)
    simpa [ints] using this

def TidyPostS (w : World) (xs : List Int) (e : Ending) (w' : World) : Prop := ∃ v, e = .returned v ∧ w'.ownsRow w.heap.size 3 1 v (ints .i64 (tidyL xs)).length (ints .i64 (tidyL xs)) ∧ Below w.heap.size w w' ∧ v ≠ .slice none 0 0

theorem compact_row (B g cap : Nat) (cur : Array Value) (zs : List Int) (w : World) (hB : B ≤ g) (hb : w.heap[g]? = some (.cells cur 3 (0, 0))) (h1 : zs.length ≤ cap) (h2 : cap ≤ maxLen) (h3 : cur.size = cap * 1) (ht : cur.toList.take zs.length = ints .i64 zs) :
    Calls Try.prog 111 #[.slice (some ⟨g, 0, none⟩) zs.length cap] w fun e w' =>
      ∃ v, e = .returned v ∧ w'.ownsRow B 3 1 v (ints .i64 (Lib.compact zs)).length (ints .i64 (Lib.compact zs)) ∧ w.grownBy w' (some g) ∧ v ≠ .slice none 0 0 := by
  have hc := Try.slices_Compact_int g 0 cap zs w (holds_of_blockI hb ht) (by unfold maxLen at h2; omega) h1
  refine hc.mono ?_
  rintro e w' ⟨rfl, q, rfl⟩
  have hle := Lib.compact_length_le zs
  have hown := ownsRow_sortedI (w := w) (n := q) (os := #[]) (ss := zs) (ts := Lib.compact zs ++ List.replicate (zs.length - (Lib.compact zs).length) 0) (by simp; omega) hB hb h1 h2 h3
  have hgr := grownBy_sortedI (w := w) (g := g) (n := q) (os := #[]) (Lib.compact zs ++ List.replicate (zs.length - (Lib.compact zs).length) 0).toArray
  rw [Sort.grow_empty] at hown hgr
  refine ⟨_, rfl, ?_, hgr, by intro h; cases h⟩
  rw [ints_len]
  refine ⟨by simp [ints], ?_⟩
  rcases hown.2 with ⟨h, _⟩ | ⟨g', cap', cur', hv, hbg, hh, hnc, hcm, hcs, htk⟩
  · cases h
  · injection hv with hv1 hv2 hv3
    injection hv1 with hv1
    injection hv1 with hv1
    subst hv1; subst hv3
    refine .inr ⟨g, cap, cur', rfl, hbg, hh, by omega, hcm, hcs, ?_⟩
    have h5 : (cur'.toList.take (zs.length * 1)).take ((Lib.compact zs).length * 1) = ints .i64 (Lib.compact zs) := by
      rw [htk]
      simp [ints]
    rwa [List.take_take, Nat.min_eq_left (by omega)] at h5

end Go.Proofs.Ytfljggodnnpeiaa.Lit

namespace Go.Proofs.Ytfljggodnnpeiaa.Lit
open Go.RowKit Go.Proofs.Ytfljggodnnpeiaa.Spr Go.Shelf Go.Proofs
set_option linter.unusedVariables false

theorem filter_yes {xs : List Int} {k : Nat} (hk : k < xs.length) (h : fm (xs.getD k 0) = true) : (xs.take (k + 1)).filter fm = (xs.take k).filter fm ++ [xs.getD k 0] := by
  have e : xs.getD k 0 = xs[k] := by rw [List.getD_eq_getElem?_getD, List.getElem?_eq_getElem hk]; rfl
  rw [List.take_succ_eq_append_getElem hk, List.filter_append, ← e, List.filter_cons_of_pos h]
  rfl
theorem filter_no {xs : List Int} {k : Nat} (hk : k < xs.length) (h : fm (xs.getD k 0) = false) : (xs.take (k + 1)).filter fm = (xs.take k).filter fm := by
  have e : xs.getD k 0 = xs[k] := by rw [List.getD_eq_getElem?_getD, List.getElem?_eq_getElem hk]; rfl
  rw [List.take_succ_eq_append_getElem hk, List.filter_append, ← e, List.filter_cons_of_neg (by rw [h]; decide)]
  simp
theorem filter_len (xs : List Int) (k : Nat) : ((xs.take k).filter fm).length ≤ k := by
  have h1 := List.length_filter_le fm (xs.take k)
  have h2 := List.length_take_le k xs
  omega

set_option maxHeartbeats 2000000 in
set_option maxRecDepth 100000 in
theorem tidy_some (A : Option Addr) (c : Nat) (xs : List Int) (w : World) (hC : IC w A xs) (hlen : xs.length * 8 ≤ 281474976710656) :
    Calls Try.prog 54 #[.slice A xs.length c] w (TidyPostS w xs) := by
  obtain ⟨i3, hi3, z31, z32, z33⟩ := info_parts info3
  have Hi3 := Lib.hid (And.intro hi3 (And.intro z31 (And.intro z32 z33)))
  clear hi3 z31 z32 z33
  have HC := Lib.hid hC
  clear hC
  have hn : (xs.length : Int) ≤ 35184372088832 := by omega
  generalize hN : xs.length = N at *
  have HN := Lib.hid hN
  clear hN
  go_enter Try.func54, Try.ntmps54
  go_wp2_with (first
    | (at_make; refine wpList_make_own _ rfl _ _ 25 rfl w.heap.size 3 i3 (.int .i64 0) 1 Try.underlying25 Hi3.out.1 Hi3.out.2.1 Hi3.out.2.2.1 _ _ _ N rfl rfl rfl (by rw [Hi3.out.2.2.2]; omega) (by unfold maxLen; omega) (Nat.le_refl _) ?_; intro w0 hown0 hgrow0; have HW := Lib.hid hown0; have HB0 := Lib.hid ((Below.refl w.heap.size w).grown hgrow0 (Nat.le_refl _) (fun _ h => by cases h)); clear hown0 hgrow0))
  go_loopw [3, 11] (fun v i wr => ∃ k : Nat, k ≤ N ∧ i = .int .i64 k ∧ v = .slice (some ⟨w.heap.size, 0, none⟩) ((xs.take k).filter fm).length N ∧ Hid (wr.ownsRow w.heap.size 3 1 (.slice (some ⟨w.heap.size, 0, none⟩) ((xs.take k).filter fm).length N) ((xs.take k).filter fm).length (ints .i64 ((xs.take k).filter fm))) ∧ Hid (Below w.heap.size w wr)) (fun _ i _ => N - (intOf i).toNat)
  case atStart => exact ⟨0, Nat.zero_le _, rfl, rfl, HW.out, HB0.out⟩
  case round =>
    obtain ⟨k, hk, rfl, rfl, ho, hb⟩ := hrel
    have hfl := filter_len xs k
    by_cases hlt : k < N
    · obtain ⟨ad, hA, hx⟩ := HC.out k (by rw [HN.out]; exact hlt)
      replace hx := (hb.out.cell (World.block_lt_of_cell? w _ hx)).trans hx
      subst hA
      have hfy := Lib.hid (fun h => filter_yes (xs := xs) (k := k) (by rw [HN.out]; exact hlt) h)
      have hfn := Lib.hid (fun h => filter_no (xs := xs) (k := k) (by rw [HN.out]; exact hlt) h)
      generalize (xs.take k).filter fm = ys at *
      generalize xs.getD k 0 = l at *
      have hbase := hb.out.size
      obtain ⟨f, hf⟩ : ∃ f, fm l = f := ⟨_, rfl⟩
      have HF := Lib.hid hf
      clear hf
      cases f with
      | true =>
        go_wp2_with (first
          | (go_at_call 59; refine (formed_any _ _).mono ?_; rintro e w' ⟨rfl, rfl⟩; rw [HF.out])
          | (at_builtin; refine wpList_append_own_spare _ rfl (.tmp 17) (.tmp 19) 25 rfl w.heap.size 3 i3 1 Try.underlying25 Hi3.out.1 Hi3.out.2.2.1 w.heap.size ys.length N _ rfl (ho.out.alloc _) ⟨wr.heap.size, 0, none⟩ 1 1 [.int .i64 l] rfl rfl (cell_one_new _ _ _) (by simp [Value.oneCell']) ?_ ?_; (omega); intro w1 hown1 hgrow1; have HO := Lib.hid hown1; have HB1 := Lib.hid (hb.out.trans (below_push (row := some w.heap.size) _ hgrow1 hb.out.size (fun k e => by cases e; exact Nat.le_refl _))); clear hown1 hgrow1))
        go_roundw
        case rel => exact ⟨k + 1, by omega, by go_num, by rw [hfy.out HF.out, List.length_append]; rfl, by rw [hfy.out HF.out, ints_snoc, List.length_append]; exact HO.out, HB1.out⟩
        case measure => simp [intOf]; omega
      | false =>
        go_wp2_with (first
          | (go_at_call 59; refine (formed_any _ _).mono ?_; rintro e w' ⟨rfl, rfl⟩; rw [HF.out]))
        go_roundw
        case rel => exact ⟨k + 1, by omega, by go_num, by rw [hfn.out HF.out], by rw [hfn.out HF.out]; exact ho.out, hb.out⟩
        case measure => simp [intOf]; omega
    · obtain rfl : k = N := by omega
      have hto : xs.take k = xs := List.take_of_length_le (by rw [HN.out]; exact Nat.le_refl _)
      rw [hto] at ho ⊢
      clear hto
      have hfl2 : (xs.filter fm).length ≤ k := by rw [← HN.out]; exact List.length_filter_le fm xs
      have HT := Lib.hid (tidy_filter xs)
      have HFm := Lib.hid (fun z (hz : z ∈ xs.filter fm) => (by simpa using (List.mem_filter.1 hz).2 : fm z = true))
      generalize xs.filter fm = ys at *
      obtain ⟨g, cap, cur, hv, hbase, hh, hnc, hcm, hcs, htk⟩ : ∃ g cap cur, (Value.slice (some ⟨w.heap.size, 0, none⟩) ys.length k) = .slice (some ⟨g, 0, none⟩) ys.length cap ∧ w.heap.size ≤ g ∧ wr.heap[g]? = some (.cells cur 3 (0, 0)) ∧ ys.length ≤ cap ∧ cap ≤ maxLen ∧ cur.size = cap * 1 ∧ cur.toList.take (ys.length * 1) = ints .i64 ys := by
        rcases ho.out.2 with ⟨h1, _⟩ | h2
        · cases h1
        · exact h2
      · injection hv with hv1 _ hv3
        injection hv1 with hv1
        injection hv1 with hv1
        subst hv1
        subst hv3
        rw [Nat.mul_one] at htk
        have HS := Lib.hid (sort_row w.heap.size w.heap.size k cur ys wr hbase hh hnc hcm hcs htk (by omega))
        have HBs := Lib.hid hbase
        have HNc := Lib.hid hnc
        have HCm := Lib.hid hcm
        clear htk hcs hh hnc hcm
        go_wp2_with (first
          | (go_at_call 109; refine HS.out.mono ?_; rintro e w2 ⟨rfl, zs, hzl, hzp, hzs, hg2, cur2, hh2, hc2, ht2⟩; have HX := Lib.hid (compact_row w.heap.size w.heap.size k cur2 zs w2 HBs.out hh2 (by rw [hzl]; exact HNc.out) HCm.out hc2 ht2); have HB2 := Lib.hid (hb.out.grown hg2 hb.out.size (fun j e => by cases e; exact HBs.out)); have HE := Lib.hid ((compact_sorted zs ys hzp HFm.out hzs).trans HT.out); rw [hzl] at HX; clear hzl hzp hzs hg2 hh2 hc2 ht2)
          | (go_at_call 111; refine HX.out.mono ?_; rintro e w3 ⟨v3, rfl, hown3, hg3, hn3⟩; rw [HE.out] at hown3; have HN3 := Lib.hid hn3; have HO3 := Lib.hid hown3; have HB3 := Lib.hid (HB2.out.grown hg3 HB2.out.size (fun j e => by cases e; exact HBs.out)); clear hown3 hg3 hn3))
        go_ret
        exact ⟨_, rfl, HO3.out, HB3.out, HN3.out⟩
theorem tidy_any (A : Option Addr) (c : Nat) (xs : List Int) (w : World) (hC : IC w A xs) (hlen : xs.length * 8 ≤ 281474976710656) :
    Calls Try.prog 54 #[.slice A xs.length c] w (TidyPost w xs) :=
  (tidy_some A c xs w hC hlen).mono fun e w' ⟨v, h1, h2, h3, _⟩ => ⟨v, h1, h2, h3⟩

end Go.Proofs.Ytfljggodnnpeiaa.Lit
