/- Part of the proof of ForwardScript: what the law uses of the texts FwA, ShelfC, FwB, ShelfD. -/
import Derived.Test.YtcaoobdbgdldaaaGreatDoorZPJFollows
import Derived.Lib.ItoaNum
import Derived.Lib.ItoaLen
import Derived.Shelf.SlicesE.DeleteFunc
import Derived.Ground.SlgfProg
import Derived.Shelf.SlicesE.Equal
import Derived.Ground.SlgnProg
import Derived.Shelf.LaysM
import Derived.Shelf.Strconv.AppendIntPublic10
import Derived.Ground.NamesProg
import Derived.Test.YtcaoobdbgdldaaaGreatDoorProg
import Derived.Lib.AppendIntMem
import Derived.Lib.Slices
import Derived.Lib.Hide
import Derived.Laws.IdiomStrings
import Derived.Laws.BytesArg
import Derived.OwnWalk
import Derived.WalkKit
import Derived.BigCall
import Derived.Shelf.SlSortCmp.Whole1
import Derived.Ground.SlsfProg
namespace Go.Proofs.YtcaoobdbgdldaaaGreatDoor.Fwd
open Go.RowKit Go.Proofs.YtcaoobdbgdldaaaGreatDoor.Lit Go.Proofs.YtcaoobdbgdldaaaGreatDoor.Spr
set_option linter.unusedVariables false
set_option linter.unusedSimpArgs false

def ddVal (l : List UInt8) : Nat := l.foldl (fun a d => 10 * a + (d.toNat - 48)) 0
theorem ddVal_snoc (l : List UInt8) (d : UInt8) : ddVal (l ++ [d]) = 10 * ddVal l + (d.toNat - 48) := by unfold ddVal; rw [List.foldl_append]; rfl
theorem toNat_digit {u : Nat} (h : u < 10) : (UInt8.ofNat (48 + u)).toNat = 48 + u := by
  rw [UInt8.toNat_ofNat']; omega
theorem dd_val (u : Nat) : ddVal (Lib.decDigits u) = u := by
  induction u using Nat.strongRecOn with
  | _ u ih =>
    rw [Lib.decDigits]
    split
    · rename_i h
      unfold ddVal
      simp only [List.foldl_cons, List.foldl_nil]
      rw [toNat_digit h]; omega
    · rename_i h
      rw [ddVal_snoc, ih _ (by omega), toNat_digit (by omega)]; omega
theorem dd_digit (u : Nat) : ∀ b ∈ Lib.decDigits u, 48 ≤ b.toNat := by
  induction u using Nat.strongRecOn with
  | _ u ih =>
    rw [Lib.decDigits]
    split
    · rename_i h
      intro b hb
      rw [List.mem_singleton.1 hb, toNat_digit h]; omega
    · rename_i h
      intro b hb
      rcases List.mem_append.1 hb with hb | hb
      · exact ih _ (by omega) b hb
      · rw [List.mem_singleton.1 hb, toNat_digit (by omega)]; omega
theorem itoa_no32 (n : Int) : (32 : UInt8) ∉ Lib.itoa n := by
  unfold Lib.itoa
  intro h
  split at h
  · rcases List.mem_cons.1 h with e | e
    · exact absurd e (by decide)
    · have := dd_digit _ _ e; exact absurd this (by decide)
  · have := dd_digit _ _ h; exact absurd this (by decide)
theorem itoa_inj {a b : Int} (h : Lib.itoa a = Lib.itoa b) : a = b := by
  have h45 : ∀ u, ∀ t, Lib.decDigits u ≠ 45 :: t := fun u t e => by
    have := dd_digit u 45 (by rw [e]; exact List.mem_cons_self)
    exact absurd this (by decide)
  unfold Lib.itoa at h
  split at h
  · split at h
    · have e := congrArg ddVal (List.cons.inj h).2
      rw [dd_val, dd_val] at e
      omega
    · exact absurd h.symm (h45 _ _)
  · split at h
    · exact absurd h (h45 _ _)
    · have e := congrArg ddVal h
      rw [dd_val, dd_val] at e
      omega

def txt (c : List Int) : List UInt8 := c.flatMap fun l => Lib.itoa l ++ [32]
theorem txt_cons (x : Int) (t : List Int) : txt (x :: t) = Lib.itoa x ++ 32 :: txt t := by unfold txt; rw [List.flatMap_cons, List.append_assoc]; rfl
theorem txt_snoc (c : List Int) (x : Int) : txt (c ++ [x]) = txt c ++ Lib.itoa x ++ [32] := by unfold txt; rw [List.flatMap_append]; simp
theorem split32 : ∀ (a b r s : List UInt8), (32 : UInt8) ∉ a → (32 : UInt8) ∉ b → a ++ 32 :: r = b ++ 32 :: s → a = b ∧ r = s
  | [], [], r, s, _, _, h => ⟨rfl, (List.cons.inj h).2⟩
  | [], y :: b, r, s, _, hb, h => absurd (List.mem_cons.2 (.inl (List.cons.inj h).1)) hb
  | x :: a, [], r, s, ha, _, h => absurd (List.mem_cons.2 (.inl (List.cons.inj h).1.symm)) ha
  | x :: a, y :: b, r, s, ha, hb, h => by
    obtain ⟨e1, e2⟩ := List.cons.inj h
    obtain ⟨e3, e4⟩ := split32 a b r s (fun h => ha (List.mem_cons_of_mem _ h)) (fun h => hb (List.mem_cons_of_mem _ h)) e2
    exact ⟨by rw [e1, e3], e4⟩
theorem txt_inj : ∀ (a b : List Int), txt a = txt b → a = b
  | [], [], _ => rfl
  | [], y :: b, h => by rw [txt_cons] at h; exact absurd h.symm (by simp [txt])
  | x :: a, [], h => by rw [txt_cons] at h; exact absurd h (by simp [txt])
  | x :: a, y :: b, h => by
    rw [txt_cons, txt_cons] at h
    obtain ⟨e1, e2⟩ := split32 _ _ _ _ (itoa_no32 x) (itoa_no32 y) h
    rw [itoa_inj e1, txt_inj a b e2]
theorem txt_len {B : Nat} : ∀ (c : List Int), (∀ x ∈ c, -9223372036854775808 ≤ x ∧ x ≤ 9223372036854775807) → (txt c).length ≤ 22 * c.length
  | [], _ => by simp [txt]
  | x :: t, h => by
    rw [txt_cons, List.length_append, List.length_cons, List.length_cons]
    have := txt_len (B := B) t fun y hy => h y (List.mem_cons_of_mem _ hy)
    have hx := h x List.mem_cons_self
    have := Lib.itoa_length_le x hx.1 hx.2
    omega

structure Fw where
  ms : List (List Int)
  all : List (List Int)
  vars : Int
  done : Bool
def reachV (v : Int) (t : List Int) : Int := t.foldl (fun m l => max m (lv l)) v
theorem reachV_snoc (v : Int) (t : List Int) (x : Int) : reachV v (t ++ [x]) = max (reachV v t) (lv x) := by unfold reachV; rw [List.foldl_append]; rfl
def putW (F : Fw) (c : List Int) : Fw :=
  { F with ms := F.ms ++ [tidyL c], all := if F.ms.count (tidyL c) = 0 then F.all ++ [tidyL c] else F.all, vars := reachV F.vars (tidyL c) }
def newW (cs : List (List Int)) : Fw := cs.foldl putW ⟨[], [], 0, false⟩
theorem newW_snoc (cs : List (List Int)) (c : List Int) : newW (cs ++ [c]) = putW (newW cs) c := by unfold newW; rw [List.foldl_append]; rfl
def kindR (v : Int) (cs : List (List Int)) (c : List Int) : Int := if followsR v cs c = true then 1 else (if safeR v cs c = true then 2 else 0)
def kindF (v : Int) (cs : List (List Int)) (c : List Int) : Int × Int := if formedB v cs && c.all fm then (kindR v cs c, 0) else (0, 1)
def refusesR (F : Fw) (c : List Int) : Int := if c.all fm = true then (if F.done = true then 3 else 0) else 1
def addW (F : Fw) (c : List Int) : Int × Int × Fw :=
  if refusesR F c = 0 then
    (if (kindF F.vars F.all c).1 = 0 then (0, 0, F) else ((kindF F.vars F.all c).1, 0, { putW F c with done := decide (c.length = 0) }))
  else (0, refusesR F c, F)
def isV (L : List Int) (x : Int) : Int := L.foldl (fun a l => if x = -l then -1 else (if x = l then 1 else a)) 0
theorem isV_snoc (L : List Int) (l x : Int) : isV (L ++ [l]) x = if x = -l then -1 else (if x = l then 1 else isV L x) := by unfold isV; rw [List.foldl_append]; rfl
def sumR (L c : List Int) : Int := c.foldl (fun a l => a + isV L l) 0
def truthsR (L c : List Int) : Int := c.foldl (fun a l => a + (if isV L l = 1 then 1 else 0)) 0
theorem sumR_snoc (L c : List Int) (x : Int) : sumR L (c ++ [x]) = sumR L c + isV L x := by unfold sumR; rw [List.foldl_append]; rfl
theorem truthsR_snoc (L c : List Int) (x : Int) : truthsR L (c ++ [x]) = truthsR L c + (if isV L x = 1 then 1 else 0) := by unfold truthsR; rw [List.foldl_append]; rfl
theorem isV_bd (L : List Int) (x : Int) : -1 ≤ isV L x ∧ isV L x ≤ 1 := by
  have : ∀ (L : List Int) (a : Int), -1 ≤ a ∧ a ≤ 1 → -1 ≤ L.foldl (fun a l => if x = -l then -1 else (if x = l then 1 else a)) a ∧ L.foldl (fun a l => if x = -l then -1 else (if x = l then 1 else a)) a ≤ 1 := by
    intro L
    induction L with
    | nil => exact fun a h => h
    | cons l t ih =>
      intro a h
      rw [List.foldl_cons]
      refine ih _ ?_
      split
      · omega
      · split <;> omega
  exact this L 0 (by omega)
def knownR (F : Fw) (t : List Int) : Bool :=
  if (closeR F.vars F.all []).2.1 = true then true else decide (truthsR (closeR F.vars F.all []).1 t = 1) && decide (sumR (closeR F.vars F.all []).1 t = 2 - t.length)
def goneW (F : Fw) (t : List Int) : Fw := { F with ms := F.ms.erase t, all := if F.ms.count t = 1 then F.all.filter (fun d => !(t == d)) else F.all }
def dropW (F : Fw) (c : List Int) : Int × Int × Fw :=
  if refusesR F c = 0 then
    (if F.ms.count (tidyL c) = 0 then (0, 0, F) else (if knownR F (tidyL c) = true then (2, 0, F) else (1, 0, goneW F (tidyL c))))
  else (0, refusesR F c, F)
end Go.Proofs.YtcaoobdbgdldaaaGreatDoor.Fwd

namespace Go.Proofs
open Go.Shelf
def Tryz.laysDR_ren : Go.Shelf.Ren := ⟨fun | 10 => 68 | 6 => 100 | n => n, fun | 22 => 22 | 23 => 40 | 25 => 83 | 3 => 3 | 4 => 4 | 0 => 0 | n => n, fun | n => n⟩
theorem Tryz.laysDR : Go.Proofs.SlLaysH.n10 Tryz.prog Tryz.laysDR_ren := {
  mixed := by kernel_rfl
  f6 := ⟨Tryz.f100.name, by decide, Tryz.func100.trans (congrArg some (by kernel_rfl))⟩
  f10 := ⟨Tryz.f68.name, by decide, Tryz.func68.trans (congrArg some (by kernel_rfl))⟩
  t0 := Tryz.underlying0
  a0 := Tryz.isAgg0
  z0 := Tryz.sizeOf0
  v0 := Tryz.zeroValue0
  t3 := Tryz.underlying3
  a3 := Tryz.isAgg3
  z3 := Tryz.sizeOf3
  v3 := Tryz.zeroValue3
  t4 := Tryz.underlying4
  a4 := Tryz.isAgg4
  z4 := Tryz.sizeOf4
  v4 := Tryz.zeroValue4
  t22 := Tryz.underlying22
  a22 := Tryz.isAgg22
  z22 := Tryz.sizeOf22
  v22 := Tryz.zeroValue22
  a23 := Tryz.isAgg40
  z23 := Tryz.sizeOf40
  t25 := Tryz.underlying83
  a25 := Tryz.isAgg83
  z25 := Tryz.sizeOf83
  v25 := Tryz.zeroValue83 }
def Tryz.laysAI_ren : Go.Shelf.Ren := ⟨fun | 176 => 99 | 249 => 124 | 288 => 155 | 283 => 175 | 284 => 176 | 285 => 177 | 286 => 178 | 129 => 134 | 317 => 184 | 318 => 185 | 319 => 186 | 320 => 187 | 337 => 188 | 338 => 189 | n => n, fun | 37 => 118 | 2 => 2 | 3 => 3 | 53 => 151 | 4 => 4 | 9 => 9 | 171 => 182 | 0 => 0 | 173 => 184 | 212 => 191 | 51 => 149 | 5 => 5 | 20 => 20 | 213 => 192 | 46 => 124 | 232 => 193 | 233 => 194 | n => n, fun | 17 => 0 | 18 => 1 | 19 => 2 | n => n⟩
theorem Tryz.laysAI : Go.Proofs.LaysM.n176 Tryz.prog Tryz.laysAI_ren := {
  mixed := by kernel_rfl
  f129 := Tryz.func134.trans (congrArg some (by kernel_rfl))
  f176 := Tryz.func99.trans (congrArg some (by kernel_rfl))
  f249 := Tryz.func124.trans (congrArg some (by kernel_rfl))
  f283 := Tryz.func175.trans (congrArg some (by kernel_rfl))
  f284 := Tryz.func176.trans (congrArg some (by kernel_rfl))
  f285 := Tryz.func177.trans (congrArg some (by kernel_rfl))
  f286 := Tryz.func178.trans (congrArg some (by kernel_rfl))
  f288 := Tryz.func155.trans (congrArg some (by kernel_rfl))
  f317 := Tryz.func184.trans (congrArg some (by kernel_rfl))
  f318 := Tryz.func185.trans (congrArg some (by kernel_rfl))
  f319 := Tryz.func186.trans (congrArg some (by kernel_rfl))
  f320 := Tryz.func187.trans (congrArg some (by kernel_rfl))
  f337 := Tryz.func188.trans (congrArg some (by kernel_rfl))
  f338 := Tryz.func189.trans (congrArg some (by kernel_rfl))
  t0 := Tryz.underlying0
  a0 := Tryz.isAgg0
  z0 := Tryz.sizeOf0
  v0 := Tryz.zeroValue0
  t2 := Tryz.underlying2
  a2 := Tryz.isAgg2
  z2 := Tryz.sizeOf2
  v2 := Tryz.zeroValue2
  t3 := Tryz.underlying3
  a3 := Tryz.isAgg3
  z3 := Tryz.sizeOf3
  v3 := Tryz.zeroValue3
  t4 := Tryz.underlying4
  a4 := Tryz.isAgg4
  z4 := Tryz.sizeOf4
  v4 := Tryz.zeroValue4
  t5 := Tryz.underlying5
  a5 := Tryz.isAgg5
  z5 := Tryz.sizeOf5
  v5 := Tryz.zeroValue5
  t9 := Tryz.underlying9
  a9 := Tryz.isAgg9
  z9 := Tryz.sizeOf9
  v9 := Tryz.zeroValue9
  t20 := Tryz.underlying20
  a20 := Tryz.isAgg20
  z20 := Tryz.sizeOf20
  v20 := Tryz.zeroValue20
  t37 := Tryz.underlying118
  a37 := Tryz.isAgg118
  z37 := Tryz.sizeOf118
  v37 := Tryz.zeroValue118
  t46 := Tryz.underlying124
  a46 := Tryz.isAgg124
  z46 := Tryz.sizeOf124
  v46 := Tryz.zeroValue124
  t51 := Tryz.underlying149
  a51 := Tryz.isAgg149
  z51 := Tryz.sizeOf149
  v51 := Tryz.zeroValue149
  t53 := Tryz.underlying151
  a53 := Tryz.isAgg151
  z53 := Tryz.sizeOf151
  v53 := Tryz.zeroValue151
  t171 := Tryz.underlying182
  a171 := Tryz.isAgg182
  z171 := Tryz.sizeOf182
  v171 := Tryz.zeroValue182
  t173 := Tryz.underlying184
  a173 := Tryz.isAgg184
  z173 := Tryz.sizeOf184
  v173 := Tryz.zeroValue184
  t212 := Tryz.underlying191
  a212 := Tryz.isAgg191
  z212 := Tryz.sizeOf191
  v212 := Tryz.zeroValue191
  t213 := Tryz.underlying192
  a213 := Tryz.isAgg192
  z213 := Tryz.sizeOf192
  t232 := Tryz.underlying193
  a232 := Tryz.isAgg193
  z232 := Tryz.sizeOf193
  v232 := Tryz.zeroValue193
  t233 := Tryz.underlying194
  a233 := Tryz.isAgg194
  z233 := Tryz.sizeOf194
  v233 := Tryz.zeroValue194
  g17 := by kernel_rfl
  g18 := by kernel_rfl
  g19 := by kernel_rfl
  i0 := by kernel_rfl
  i2 := by kernel_rfl
  i3 := by kernel_rfl
  i4 := by kernel_rfl
  i5 := by kernel_rfl
  i9 := by kernel_rfl
  i20 := by kernel_rfl
  i37 := by kernel_rfl
  i46 := by kernel_rfl
  i51 := by kernel_rfl
  i53 := by kernel_rfl
  i171 := by kernel_rfl
  i173 := by kernel_rfl
  i212 := by kernel_rfl
  i232 := by kernel_rfl
  i233 := by kernel_rfl
  m17 := by kernel_rfl
  m18 := by kernel_rfl
  m19 := by kernel_rfl }
end Go.Proofs

namespace Go.Proofs.YtcaoobdbgdldaaaGreatDoor.Fwd
open Go.RowKit Go.Shelf Go.Proofs.YtcaoobdbgdldaaaGreatDoor.Lit Go.Proofs.YtcaoobdbgdldaaaGreatDoor.Spr
set_option linter.unusedVariables false
set_option linter.unusedSimpArgs false

def Tab (w : World) : Prop := Lib.TabIs Tryz.prog w "internal/strconv.uint64pow10" .u64 Lib.pow10Tab
theorem Tab.below {w w1 : World} (h : Tab w) (hb : Below w.heap.size w w1) : Tab w1 := Lib.tabBelow_of_tabIs h w1 hb

theorem infoByte : (Tryz.prog.info? 5).map (fun i => (i.zero, i.size, i.bytes)) = some (some (.int .u8 0), 1, 1) := by kernel_rfl

theorem appendInt (B n : Nat) (i : Int) (h0 : -9223372036854775808 ≤ i) (h1 : i ≤ 9223372036854775807) (sv : Value) (xs : List Value) (w : World) (hown : w.ownsRow B 5 1 sv n xs) (hBw : B ≤ w.heap.size) (hlim : n + 21 ≤ 140737488355328) (htab : Lib.TabBelow Tryz.prog B w "internal/strconv.uint64pow10" .u64 Lib.pow10Tab) :
    Calls Tryz.prog 99 #[sv, .int .i64 i, .int .i64 10] w fun e w' => ∃ v', e = .returned v' ∧ w'.ownsRow B 5 1 v' (n + (Lib.itoa i).length) (xs ++ Lib.byteCells (Lib.itoa i)) ∧ Below B w w' ∧ Lib.OthersKept 5 none w w' := Any.strconv_AppendInt_10 Tryz.laysAI B n i h0 h1 sv xs w hown hBw hlim htab

theorem bytes_back (w : World) (B : Nat) (v : Value) (l : List UInt8) (hown : w.ownsRow B 5 1 v l.length (Lib.byteCells l)) :
    (convert 118 9 v).run Tryz.prog w = .ok (.string ⟨l.toArray⟩) w := by
  rcases hown.2 with ⟨rfl, h0⟩ | ⟨g, cap, cur, rfl, -, -, -, -, -, -⟩
  · have : l = [] := List.length_eq_zero_iff.1 h0
    subst this
    exact run_convert_bytes_nil (P := Tryz.prog) (w := w) 118 5 Tryz.underlying118 Tryz.underlying5 0 0 9 Tryz.underlying9
  · exact run_convert_bytes_back (P := Tryz.prog) w 118 9 5 ⟨g, 0, none⟩ cap l Tryz.underlying118 Tryz.underlying5 Tryz.underlying9 (fun j hj => hown.cells (g := g) rfl j _ (by simp [Lib.byteCells, hj]))

set_option maxHeartbeats 4000000 in
set_option maxRecDepth 100000 in
theorem text_any (A : Option Addr) (c : Nat) (xs : List Int) (w : World) (hC : IC w A xs) (hl : xs.length ≤ 2097152) (hx : ∀ x ∈ xs, fm x = true) (hT : Tab w) :
    Calls Tryz.prog 66 #[.slice A xs.length c] w fun e w' => e = .returned (.string ⟨(txt xs).toArray⟩) ∧ Below w.heap.size w w' := by
  obtain ⟨i0, hi, hz0, hz1, hz2⟩ := info_parts infoByte
  have HIn := Lib.hid (And.intro hi (And.intro hz0 (And.intro hz1 hz2)))
  have HT := Lib.hid (Lib.tabBelow_of_tabIs hT)
  have HC := Lib.hid (fun n (hn : n < xs.length) (w2 : World) (hb2 : Below w.heap.size w w2) => (hC.below hb2) n hn)
  have HBd := Lib.hid (fun n (hn : n < xs.length) => show -1048576 ≤ xs.getD n 0 ∧ xs.getD n 0 ≤ 1048576 from (fm_true (hx (xs.getD n 0) (by rw [List.getD_eq_getElem?_getD, List.getElem?_eq_getElem hn]; exact List.getElem_mem _))).2)
  have HLen := Lib.hid (fun k => show (txt (xs.take k)).length ≤ 22 * k by
    have := txt_len (B := 0) (xs.take k) (fun x hx2 => by have := fm_true (hx x (List.mem_of_mem_take hx2)); omega)
    have := List.length_take_le k xs
    omega)
  have HSn := Lib.hid (fun k (hk : k < xs.length) => show txt (xs.take (k + 1)) = txt (xs.take k) ++ Lib.itoa (xs.getD k 0) ++ [32] by
    rw [← txt_snoc, List.take_add_one, List.getD_eq_getElem?_getD, List.getElem?_eq_getElem hk]; rfl)
  have HEnd := Lib.hid (show txt (xs.take xs.length) = txt xs by rw [List.take_length])
  clear hC hx hT hi hz0 hz1 hz2
  generalize hN : xs.length = N at *
  clear hN
  go_enter Tryz.func66, Tryz.ntmps66
  go_wp2
  go_loopw [3, 8] (fun b i wr => ∃ k : Nat, k ≤ N ∧ i = .int .i64 k ∧ wr.ownsRow w.heap.size 5 1 b (txt (xs.take k)).length (Lib.byteCells (txt (xs.take k))) ∧ Below w.heap.size w wr) (fun _ i _ => N - (intOf i).toNat)
  case atStart => exact ⟨0, Nat.zero_le _, rfl, World.ownsRow_nil _ _ _ _, Below.refl _ _⟩
  case round =>
    obtain ⟨k, hk, rfl, hown, hb⟩ := hrel
    by_cases hlt : k < N
    · obtain ⟨ad, hA, hx⟩ := HC.out k hlt _ hb
      subst hA
      obtain ⟨b0, b1⟩ := HBd.out k hlt
      have hlen := HLen.out k
      have HS := Lib.hid (HSn.out k hlt)
      have hbz := hb.size
      have HO := Lib.hid hown
      have HB := Lib.hid hb
      clear hown hb
      generalize hx0 : xs.getD k 0 = x at *
      clear hx0
      have hil := Lib.itoa_length_le x (by omega) (by omega)
      go_wp2_with (first
        | (go_at_call 99; refine (appendInt w.heap.size _ x (by omega) (by omega) _ _ _ HO.out hbz (by omega) (HT.out.on HB.out)).mono ?_; rintro e w1 ⟨v1, rfl, hown1, hnx1, -⟩; refine Hid.out ?_))
      refine Lib.hid ?_
      have hz1 := hnx1.size
      have HO1 := Lib.hid hown1
      have HN1 := Lib.hid hnx1
      clear hown1 hnx1
      go_wp2_with (first
        | (at_builtin; refine wpList_append_own _ rfl _ _ 118 rfl w.heap.size 5 i0 (.int .u8 0) 1 1 Tryz.underlying118 HIn.out.1 HIn.out.2.1 HIn.out.2.2.1 HIn.out.2.2.2 rfl (by decide) _ _ _ rfl (HO1.out.alloc _) ⟨w1.heap.size, 0, none⟩ 1 1 [Value.int .u8 32] rfl rfl (by intro j u' hj; match j, hj with | 0, hj => simp at hj; subst hj; simp [Addr.add]) (by intro u' hu'; simp at hu'; subst hu'; rfl) (by unfold maxLen; omega) (by omega) (by simp; omega) ?_; intro v2 w2 hown2 hgrow2 _; have HO2 := Lib.hid hown2; have HN2 := Lib.hid ((HN1.out.alloc (by omega) _).grown hgrow2 (by simp; omega) (fun k hk => (HO1.out.lt k hk).1)); clear hown2 hgrow2))
      go_roundw
      case rel =>
        refine ⟨k + 1, by omega, by go_num, ?_, HB.out.trans HN2.out⟩
        rw [HS.out]
        have e1 : (txt (xs.take k) ++ Lib.itoa x ++ [32]).length = (txt (xs.take k)).length + (Lib.itoa x).length + 1 := by rw [List.length_append, List.length_append]; rfl
        have e2 : Lib.byteCells (txt (xs.take k) ++ Lib.itoa x ++ [32]) = Lib.byteCells (txt (xs.take k)) ++ Lib.byteCells (Lib.itoa x) ++ [Value.int .u8 32] := by simp [Lib.byteCells]
        rw [e1, e2]
        exact HO2.out
      case measure => simp [intOf]; omega
    · obtain rfl : k = N := by omega
      rw [HEnd.out] at hown
      have HB := Lib.hid hb
      clear hb
      have hcv := bytes_back wr _ _ _ hown
      clear hown
      go_wp2
      go_ret
      exact ⟨rfl, HB.out⟩

end Go.Proofs.YtcaoobdbgdldaaaGreatDoor.Fwd

namespace Go.Proofs
open Go.Shelf
def Tryz.laysSR_ren : Go.Shelf.Ren := ⟨fun | 6 => 72 | 15 => 102 | 14 => 101 | 28 => 133 | 29 => 134 | 20 => 125 | 21 => 126 | 22 => 127 | 23 => 128 | 24 => 129 | 25 => 130 | 26 => 131 | 27 => 132 | 46 => 156 | 47 => 157 | 48 => 158 | 49 => 159 | 50 => 160 | 57 => 179 | n => n, fun | 22 => 22 | 24 => 40 | 25 => 106 | 3 => 3 | 39 => 124 | 0 => 0 | 53 => 149 | 55 => 151 | 4 => 4 | 46 => 142 | 45 => 141 | 50 => 146 | 5 => 5 | 9 => 9 | 66 => 165 | 70 => 169 | 76 => 186 | 77 => 173 | n => n, fun | n => n⟩
theorem Tryz.laysSR : Go.Proofs.SlLaysF.n6 Tryz.prog Tryz.laysSR_ren := {
  mixed := by kernel_rfl
  f6 := ⟨Tryz.f72.name, by decide, Tryz.func72.trans (congrArg some (by kernel_rfl))⟩
  f14 := ⟨Tryz.f101.name, by decide, Tryz.func101.trans (congrArg some (by kernel_rfl))⟩
  f15 := Tryz.func102.trans (congrArg some (by kernel_rfl))
  f20 := ⟨Tryz.f125.name, by decide, Tryz.func125.trans (congrArg some (by kernel_rfl))⟩
  f21 := ⟨Tryz.f126.name, by decide, Tryz.func126.trans (congrArg some (by kernel_rfl))⟩
  f22 := ⟨Tryz.f127.name, by decide, Tryz.func127.trans (congrArg some (by kernel_rfl))⟩
  f23 := ⟨Tryz.f128.name, by decide, Tryz.func128.trans (congrArg some (by kernel_rfl))⟩
  f24 := ⟨Tryz.f129.name, by decide, Tryz.func129.trans (congrArg some (by kernel_rfl))⟩
  f25 := ⟨Tryz.f130.name, by decide, Tryz.func130.trans (congrArg some (by kernel_rfl))⟩
  f26 := ⟨Tryz.f131.name, by decide, Tryz.func131.trans (congrArg some (by kernel_rfl))⟩
  f27 := ⟨Tryz.f132.name, by decide, Tryz.func132.trans (congrArg some (by kernel_rfl))⟩
  f28 := Tryz.func133.trans (congrArg some (by kernel_rfl))
  f29 := Tryz.func134.trans (congrArg some (by kernel_rfl))
  f46 := ⟨Tryz.f156.name, by decide, Tryz.func156.trans (congrArg some (by kernel_rfl))⟩
  f47 := Tryz.func157.trans (congrArg some (by kernel_rfl))
  f48 := Tryz.func158.trans (congrArg some (by kernel_rfl))
  f49 := ⟨Tryz.f159.name, by decide, Tryz.func159.trans (congrArg some (by kernel_rfl))⟩
  f50 := ⟨Tryz.f160.name, by decide, Tryz.func160.trans (congrArg some (by kernel_rfl))⟩
  f57 := ⟨Tryz.f179.name, by decide, Tryz.func179.trans (congrArg some (by kernel_rfl))⟩
  t0 := Tryz.underlying0
  a0 := Tryz.isAgg0
  z0 := Tryz.sizeOf0
  v0 := Tryz.zeroValue0
  t3 := Tryz.underlying3
  a3 := Tryz.isAgg3
  z3 := Tryz.sizeOf3
  v3 := Tryz.zeroValue3
  t4 := Tryz.underlying4
  a4 := Tryz.isAgg4
  z4 := Tryz.sizeOf4
  v4 := Tryz.zeroValue4
  t5 := Tryz.underlying5
  a5 := Tryz.isAgg5
  z5 := Tryz.sizeOf5
  v5 := Tryz.zeroValue5
  t9 := Tryz.underlying9
  a9 := Tryz.isAgg9
  z9 := Tryz.sizeOf9
  v9 := Tryz.zeroValue9
  t22 := Tryz.underlying22
  a22 := Tryz.isAgg22
  z22 := Tryz.sizeOf22
  v22 := Tryz.zeroValue22
  a24 := Tryz.isAgg40
  z24 := Tryz.sizeOf40
  t25 := Tryz.underlying106
  a25 := Tryz.isAgg106
  z25 := Tryz.sizeOf106
  v25 := Tryz.zeroValue106
  t39 := Tryz.underlying124
  a39 := Tryz.isAgg124
  z39 := Tryz.sizeOf124
  v39 := Tryz.zeroValue124
  t45 := Tryz.underlying141
  a45 := Tryz.isAgg141
  z45 := Tryz.sizeOf141
  v45 := Tryz.zeroValue141
  t46 := Tryz.underlying142
  a46 := Tryz.isAgg142
  z46 := Tryz.sizeOf142
  v46 := Tryz.zeroValue142
  t50 := Tryz.underlying146
  a50 := Tryz.isAgg146
  z50 := Tryz.sizeOf146
  v50 := Tryz.zeroValue146
  t53 := Tryz.underlying149
  a53 := Tryz.isAgg149
  z53 := Tryz.sizeOf149
  v53 := Tryz.zeroValue149
  t55 := Tryz.underlying151
  a55 := Tryz.isAgg151
  z55 := Tryz.sizeOf151
  v55 := Tryz.zeroValue151
  t66 := Tryz.underlying165
  a66 := Tryz.isAgg165
  z66 := Tryz.sizeOf165
  v66 := Tryz.zeroValue165
  t70 := Tryz.underlying169
  a70 := Tryz.isAgg169
  z70 := Tryz.sizeOf169
  v70 := Tryz.zeroValue169
  t76 := Tryz.underlying186
  a76 := Tryz.isAgg186
  z76 := Tryz.sizeOf186
  v76 := Tryz.zeroValue186
  t77 := Tryz.underlying173
  a77 := Tryz.isAgg173
  z77 := Tryz.sizeOf173
  v77 := Tryz.zeroValue173 }
end Go.Proofs
