/- Part of the proof of TrimRight: what the law uses of the text UA. -/
import Derived.Test.YtfljggodnnpeiaaProg
import Derived.WalkKit
import Derived.KernelRfl
import Derived.Lib.Hide
import Derived.Maps.OwnSet
import Derived.Maps.OwnOps
import Derived.Maps.AppendAt
import Derived.Maps.Views
import Derived.Deep.QuietTactic
import Derived.BigQuiet
import Derived.Deep.LoopGhost
namespace Go.Proofs.Ytfljggodnnpeiaa.Lit
open Go.RowKit
set_option linter.unusedVariables false

def fm (l : Int) : Bool := decide (l ≠ 0 ∧ -1048576 ≤ l ∧ l ≤ 1048576)
theorem fm_true {l : Int} (h : fm l = true) : l ≠ 0 ∧ -1048576 ≤ l ∧ l ≤ 1048576 := of_decide_eq_true h
def lv (l : Int) : Int := if fm l = true then (if l < 0 then -l else l) else 0
def ix (l : Int) : Int := if fm l = true then (if l < 0 then 2 * (-l) - 1 else 2 * l - 2) else -1

theorem ret_i {k : IntKind} {a b : Int} (h : a = b) : Ending.returned (.int k a) = .returned (.int k b) := by rw [h]

set_option maxHeartbeats 400000 in
theorem formed_any (l : Int) (w : World) : Calls Try.prog 59 #[.int .i64 l] w fun e w' => e = .returned (.bool (fm l)) ∧ w = w' := by
  by_cases c2 : l = 0
  · have c2b0 : (l == 0) = true := beq_iff_eq.mpr c2
    have c2b1 : (l != 0) = false := bne_eq_false_iff_eq.mpr c2
    have hf : fm l = false := by simp [fm, c2]
    rw [hf]
    clear c2 hf
    go_enter Try.func59, Try.ntmps59
    go_wp2
    go_ret
    exact ⟨rfl, rfl⟩
  · have c2b0 : (l == 0) = false := beq_eq_false_iff_ne.mpr c2
    have c2b1 : (l != 0) = true := bne_iff_ne.mpr c2
    by_cases c3 : l ≥ -1048576
    · have c3b0 : decide ((-1048576) ≤ l) = true := decide_eq_true c3
      have hf : fm l = decide (l ≤ 1048576) := by
        unfold fm; rw [Bool.eq_iff_iff]; simp; omega
      rw [hf]
      clear c3 hf
      go_enter Try.func59, Try.ntmps59
      go_wp2
      go_ret
      exact ⟨rfl, rfl⟩
    · have c3b0 : decide ((-1048576) ≤ l) = false := decide_eq_false c3
      have hf : fm l = false := by
        unfold fm; rw [decide_eq_false_iff_not]; omega
      rw [hf]
      clear c3 hf
      go_enter Try.func59, Try.ntmps59
      go_wp2
      go_ret
      exact ⟨rfl, rfl⟩

set_option maxHeartbeats 400000 in
theorem var_any (l : Int) (w : World) : Calls Try.prog 112 #[.int .i64 l] w fun e w' => e = .returned (.int .i64 (lv l)) ∧ w = w' := by
  obtain ⟨b, hb⟩ : ∃ b, fm l = b := ⟨_, rfl⟩
  cases b with
  | false =>
    have hv : lv l = 0 := by simp [lv, hb]
    rw [hv]
    have H := Lib.hid hb
    clear hb hv
    go_enter Try.func112, Try.ntmps112
    go_wp2_with (go_at_call 59; refine (formed_any _ _).mono ?_; rintro e w' ⟨rfl, rfl⟩; rw [H.out])
    go_ret
    exact ⟨rfl, rfl⟩
  | true =>
    obtain ⟨h0, h1, h2⟩ := fm_true hb
    have hv : lv l = if l < 0 then -l else l := by simp [lv, hb]
    rw [hv]
    have H := Lib.hid hb
    clear hb hv
    by_cases hlt : l < 0
    · rw [if_pos hlt]
      go_enter Try.func112, Try.ntmps112
      go_wp2_with (go_at_call 59; refine (formed_any _ _).mono ?_; rintro e w' ⟨rfl, rfl⟩; rw [H.out])
      go_ret
      exact ⟨rfl, rfl⟩
    · rw [if_neg hlt]
      go_enter Try.func112, Try.ntmps112
      go_wp2_with (go_at_call 59; refine (formed_any _ _).mono ?_; rintro e w' ⟨rfl, rfl⟩; rw [H.out])
      go_ret
      exact ⟨rfl, rfl⟩

set_option maxHeartbeats 400000 in
theorem index_any (l : Int) (w : World) : Calls Try.prog 141 #[.int .i64 l] w fun e w' => e = .returned (.int .i64 (ix l)) ∧ w = w' := by
  obtain ⟨b, hb⟩ : ∃ b, fm l = b := ⟨_, rfl⟩
  cases b with
  | false =>
    have hv : ix l = -1 := by simp [ix, hb]
    rw [hv]
    have H := Lib.hid hb
    clear hb hv
    go_enter Try.func141, Try.ntmps141
    go_wp2_with (go_at_call 59; refine (formed_any _ _).mono ?_; rintro e w' ⟨rfl, rfl⟩; rw [H.out])
    go_ret
    exact ⟨rfl, rfl⟩
  | true =>
    obtain ⟨h0, h1, h2⟩ := fm_true hb
    have hv : ix l = if l < 0 then 2 * (-l) - 1 else 2 * l - 2 := by simp [ix, hb]
    rw [hv]
    have H := Lib.hid hb
    clear hb hv
    by_cases hlt : l < 0
    · rw [if_pos hlt]
      go_enter Try.func141, Try.ntmps141
      go_wp2_with (go_at_call 59; refine (formed_any _ _).mono ?_; rintro e w' ⟨rfl, rfl⟩; rw [H.out])
      go_ret
      exact ⟨by first | rfl | (refine ret_i ?_; omega), rfl⟩
    · rw [if_neg hlt]
      go_enter Try.func141, Try.ntmps141
      go_wp2_with (go_at_call 59; refine (formed_any _ _).mono ?_; rintro e w' ⟨rfl, rfl⟩; rw [H.out])
      go_ret
      exact ⟨by first | rfl | (refine ret_i ?_; omega), rfl⟩

theorem ix_bd (l : Int) : -1 ≤ ix l ∧ ix l ≤ 2097151 := by
  unfold ix
  by_cases h : fm l = true
  · have := fm_true h
    rw [if_pos h]; split <;> omega
  · rw [if_neg h]; omega

set_option maxHeartbeats 400000 in
theorem byIndex_any (a b : Int) (w : World) : Calls Try.prog 110 #[.int .i64 a, .int .i64 b] w fun e w' => e = .returned (.int .i64 (ix a - ix b)) ∧ w = w' := by
  obtain ⟨a1, a2⟩ := ix_bd a
  obtain ⟨b1, b2⟩ := ix_bd b
  go_enter Try.func110, Try.ntmps110
  go_wp2_with (go_at_call 141; refine (index_any _ _).mono ?_; rintro e w' ⟨rfl, rfl⟩)
  go_ret
  exact ⟨rfl, rfl⟩

end Go.Proofs.Ytfljggodnnpeiaa.Lit

namespace Go.Proofs.Ytfljggodnnpeiaa.Spr
open Go.RowKit Go.Maps Go.Proofs.Ytfljggodnnpeiaa.Lit
set_option linter.unusedVariables false

theorem law3 : Keyed Try.prog 3 := int_keyed Try.underlying3
theorem zero3 (w : World) : (zeroValue 3).run Try.prog w = .ok (.int .i64 0) w := by kernel_rfl
theorem info3 : (Try.prog.info? 3).map (fun i => (i.zero, i.size, i.bytes)) = some (some (.int .i64 0), 1, 8) := by kernel_rfl
theorem info8 : (Try.prog.info? 95).map (fun i => (i.zero, i.size, i.bytes)) = some (some (.int .i8 0), 1, 1) := by kernel_rfl
theorem infoI : (Try.prog.info? 25).map (fun i => (i.zero, i.size, i.bytes)) = some (some (.slice none 0 0), 1, 24) := by kernel_rfl

def Tg (τ : Nat → Nat) (v : Value) (t : Nat) : Prop := ∀ k, v.ownBlock = some k → τ k = t
theorem Tg.nil (τ : Nat → Nat) (n c t : Nat) : Tg τ (.slice none n c) t := fun k hk => by simp [Value.ownBlock] at hk
theorem Tg.ne' {τ : Nat → Nat} {v : Value} {b s t : Nat} (hb : τ b = s) (hv : Tg τ v t) (h : s ≠ t) : some b ≠ v.ownBlock := fun e => h (hb.symm.trans (hv b e.symm))
def retag (τ : Nat → Nat) (n t : Nat) : Nat → Nat := fun k => if k < n then τ k else t
theorem retag_old {τ : Nat → Nat} {n t k : Nat} (h : k < n) : retag τ n t k = τ k := if_pos h
theorem retag_new {τ : Nat → Nat} {n t k : Nat} (h : n ≤ k) : retag τ n t k = t := if_neg (by omega)
def ints (k : IntKind) (xs : List Int) : List Value := xs.map fun x => .int k x
theorem ints_len (k : IntKind) (xs : List Int) : (ints k xs).length = xs.length := by simp [ints]

theorem own_lt {w : World} {base : Nat} {e : TypeId} {size n : Nat} {v : Value} {xs : List Value} (h : w.ownsRow base e size v n xs) (k : Nat) (hk : v.ownBlock = some k) : k < w.heap.size := by
  rcases h.2 with ⟨rfl, _⟩ | ⟨g, cap, cur, rfl, hg, hh, r⟩
  · simp [Value.ownBlock] at hk
  · have : g = k := by simpa [Value.ownBlock] using hk
    subst this
    exact (Array.getElem?_eq_some_iff.1 hh).1
theorem own_base {w : World} {base : Nat} {e : TypeId} {size n : Nat} {v : Value} {xs : List Value} (h : w.ownsRow base e size v n xs) (k : Nat) (hk : v.ownBlock = some k) : base ≤ k := by
  rcases h.2 with ⟨rfl, _⟩ | ⟨g, cap, cur, rfl, hg, hh, r⟩
  · simp [Value.ownBlock] at hk
  · have : g = k := by simpa [Value.ownBlock] using hk
    subst this
    exact hg
theorem own_move {w w1 : World} {base : Nat} {e : TypeId} {size n : Nat} {v : Value} {xs : List Value} (h : w.ownsRow base e size v n xs) (hm : ∀ k, v.ownBlock = some k → w1.heap[k]? = w.heap[k]?) : w1.ownsRow base e size v n xs := by
  obtain ⟨h1, h2⟩ := h
  refine ⟨h1, ?_⟩
  rcases h2 with h2 | ⟨g, cap, cur, rfl, hg, hh, r⟩
  · exact .inl h2
  · exact .inr ⟨g, cap, cur, rfl, hg, (hm g (by simp [Value.ownBlock])).trans hh, r⟩

structure Row (w : World) (B : Nat) (τ : Nat → Nat) (t : Nat) (e : TypeId) (v : Value) (xs : List Value) : Prop where
  own : w.ownsRow B e 1 v xs.length xs
  tag : Tg τ v t
abbrev IRow (w : World) (B : Nat) (τ : Nat → Nat) (t : Nat) (e : TypeId) (k : IntKind) (v : Value) (xs : List Int) : Prop := Row w B τ t e v (ints k xs)

structure Stay (w w1 : World) (τ τ1 : Nat → Nat) (T : Nat → Prop) : Prop where
  size : w.heap.size ≤ w1.heap.size
  tag : ∀ k, k < w.heap.size → τ1 k = τ k
  blk : ∀ k, k < w.heap.size → T (τ k) → w1.heap[k]? = w.heap[k]?
theorem Row.stay {w w1 : World} {B : Nat} {τ τ1 : Nat → Nat} {t : Nat} {e : TypeId} {v : Value} {xs : List Value} {T : Nat → Prop} (h : Row w B τ t e v xs) (hs : Stay w w1 τ τ1 T) (ht : T t) : Row w1 B τ1 t e v xs :=
  ⟨own_move h.own fun k hk => hs.blk k (own_lt h.own k hk) (by rw [h.tag k hk]; exact ht), fun k hk => (hs.tag k (own_lt h.own k hk)).trans (h.tag k hk)⟩

structure St where
  ids : List Int
  clauses : List (List Int)
  inn : List (List Int)
  opn : List Int
  on : List Int
  value : List Int
  why : List Int
  trail : List Int
  done : Int
  bad : Int
structure Vals where
  m : Nat
  vc : Value
  vin : Value
  vo : Value
  von : Value
  vv : Value
  vw : Value
  vt : Value
  cl : List Value
  inn : List Value
  D : DataW Unit
  vx : Value
  xx : List Int

def dI (n : Int) : DataW Unit := .lit (.int .i64 n)
def MapIs (D : DataW Unit) (ids : List Int) : Prop :=
  ∀ v : Int, Maps.has D (.int .i64 v) = ids.contains v ∧ (ids.contains v = true → D.atKey (.int .i64 v) (dI 0) = dI (ids.idxOf v))

def cellsOf (V : Vals) (S : St) : Array Value := #[.map (some V.m), V.vc, V.vin, V.vo, V.von, V.vv, V.vw, V.vt, .int .i64 S.done, .int .i64 S.bad]

structure Rep (w : World) (B b : Nat) (τ : Nat → Nat) (V : Vals) (S : St) : Prop where
  blk : w.heap[b]? = some (.cells (cellsOf V S) 134 (0, 0))
  hb : B ≤ b
  tb : τ b = 0
  map : w.ownsMap Try.prog 3 (plainElem Try.prog 3) V.m S.ids.length V.D
  hm : B ≤ V.m
  tm : τ V.m = 1
  ids : MapIs V.D S.ids
  rc : Row w B τ 2 25 V.vc V.cl
  lc : V.cl.length = S.clauses.length
  cl : ∀ i v c, V.cl[i]? = some v → S.clauses[i]? = some c → IRow w B τ (10 + 2 * i) 3 .i64 v c
  rin : Row w B τ 3 25 V.vin V.inn
  lin : V.inn.length = S.inn.length
  inn : ∀ i v c, V.inn[i]? = some v → S.inn[i]? = some c → IRow w B τ (11 + 2 * i) 3 .i64 v c
  ro : IRow w B τ 4 3 .i64 V.vo S.opn
  ron : IRow w B τ 5 3 .i64 V.von S.on
  rv : IRow w B τ 6 95 .i8 V.vv S.value
  rw : IRow w B τ 7 3 .i64 V.vw S.why
  rt : IRow w B τ 8 3 .i64 V.vt S.trail
  rx : IRow w B τ 9 3 .i64 V.vx V.xx

theorem Rep.stay {w w1 : World} {B b : Nat} {τ τ1 : Nat → Nat} {V : Vals} {S : St} (h : Rep w B b τ V S) (hs : Stay w w1 τ τ1 (fun _ => True)) : Rep w1 B b τ1 V S := by
  have hlb : b < w.heap.size := (Array.getElem?_eq_some_iff.1 h.blk).1
  have hlm : V.m < w.heap.size := h.map.lt
  refine ⟨(hs.blk b hlb trivial).trans h.blk, h.hb, (hs.tag b hlb).trans h.tb, ?_, h.hm, (hs.tag _ hlm).trans h.tm, h.ids, h.rc.stay hs trivial, h.lc, fun i v c h1 h2 => (h.cl i v c h1 h2).stay hs trivial, h.rin.stay hs trivial, h.lin, fun i v c h1 h2 => (h.inn i v c h1 h2).stay hs trivial, h.ro.stay hs trivial, h.ron.stay hs trivial, h.rv.stay hs trivial, h.rw.stay hs trivial, h.rt.stay hs trivial, h.rx.stay hs trivial⟩
  obtain ⟨es, clock, hb, r⟩ := h.map
  exact ⟨es, clock, (hs.blk V.m hlm trivial).trans hb, r⟩

theorem Stay.refl (w : World) (τ : Nat → Nat) (T : Nat → Prop) : Stay w w τ τ T := ⟨Nat.le_refl _, fun _ _ => rfl, fun _ _ _ => rfl⟩
theorem Stay.drewN (w : World) (τ : Nat → Nat) (T : Nat → Prop) (n : Nat) : Stay w (w.drewN n) τ τ T := ⟨Nat.le_refl _, fun _ _ => rfl, fun _ _ _ => rfl⟩
theorem Stay.alloc (w : World) (τ : Nat → Nat) (T : Nat → Prop) (o : Obj) (t : Nat) : Stay w (w.alloc o) τ (retag τ w.heap.size t) T :=
  ⟨by simp, fun k hk => retag_old hk, fun k hk _ => Below.heap_alloc _ _ _ hk⟩

def pix (ids : List Int) (l : Int) : Int := if l < 0 then 2 * (ids.idxOf (lv l) : Int) + 1 else 2 * (ids.idxOf (lv l) : Int)

theorem lv_bd (l : Int) : 0 ≤ lv l ∧ lv l ≤ 1048576 := by
  unfold lv
  by_cases h : fm l = true
  · have := fm_true h
    rw [if_pos h]; split <;> omega
  · rw [if_neg h]; omega

end Go.Proofs.Ytfljggodnnpeiaa.Spr

namespace Go.Proofs.Ytfljggodnnpeiaa.Spr
open Go.RowKit Go.Maps Go.Proofs.Ytfljggodnnpeiaa.Lit
set_option linter.unusedVariables false

set_option maxHeartbeats 400000 in
set_option maxRecDepth 100000 in
theorem place_known {w : World} {B b : Nat} {τ : Nat → Nat} {V : Vals} {S : St} (R : Rep w B b τ V S) (l : Int) (hk : S.ids.contains (lv l) = true) (hn : S.ids.length ≤ 2097152) :
    Calls Try.prog 114 #[.pointer (some ⟨b, 0, none⟩), .int .i64 l] w fun e w' => e = .returned (.int .i64 (pix S.ids l)) ∧ w = w' := by
  have c0 : w.cell? ⟨b, 0, none⟩ = some (.map (some V.m)) := (cell_of_row w b 0 _ _ _ R.blk).trans rfl
  have hb0 := lv_bd l
  have hkey := keyOf_int_mk (P := Try.prog) Try.underlying3 (a := lv l) (WalkArith.wf_i64 (by omega))
  have hown := R.map
  have hh : Maps.has V.D (.int .i64 (lv l)) = true := (R.ids (lv l)).1.trans hk
  have HA := Lib.hid ((R.ids (lv l)).2 hk)
  have hix : (S.ids.idxOf (lv l)) < S.ids.length := List.idxOf_lt_length_of_mem (by simpa using hk)
  have hi0 : 0 ≤ (S.ids.idxOf (lv l) : Int) := by omega
  have hi1 : (S.ids.idxOf (lv l) : Int) < 2097152 := by omega
  unfold pix
  generalize hg : lv l = v at *
  have HG := Lib.hid hg
  clear hg
  generalize (S.ids.idxOf v : Int) = p at *
  clear R
  by_cases hlt : l < 0
  · rw [if_pos hlt]
    go_enter Try.func114, Try.ntmps114
    go_wp2_with (first
      | (go_at_call 112; refine (var_any _ _).mono ?_; rintro e w' ⟨rfl, rfl⟩; rw [HG.out])
      | (at_lookup; refine wpList_lookup_own_ok_int _ rfl _ _ 88 rfl 3 3 .i64 law3 Try.underlying88 Try.underlying3 (zero3 _) V.m _ V.D rfl hown _ _ rfl hkey ?_; intro c hat hwc; obtain rfl : p = c := (by have := HA.out.symm.trans hat; simpa [dI] using this); clear hat hwc))
    go_ret
    exact ⟨rfl, rfl⟩
  · rw [if_neg hlt]
    go_enter Try.func114, Try.ntmps114
    go_wp2_with (first
      | (go_at_call 112; refine (var_any _ _).mono ?_; rintro e w' ⟨rfl, rfl⟩; rw [HG.out])
      | (at_lookup; refine wpList_lookup_own_ok_int _ rfl _ _ 88 rfl 3 3 .i64 law3 Try.underlying88 Try.underlying3 (zero3 _) V.m _ V.D rfl hown _ _ rfl hkey ?_; intro c hat hwc; obtain rfl : p = c := (by have := HA.out.symm.trans hat; simpa [dI] using this); clear hat hwc))
    go_ret
    exact ⟨rfl, rfl⟩

end Go.Proofs.Ytfljggodnnpeiaa.Spr

namespace Go.Proofs.Ytfljggodnnpeiaa.Spr
open Go.RowKit Go.Maps Go.Proofs.Ytfljggodnnpeiaa.Lit
set_option linter.unusedVariables false

theorem Stay.trans {a b c : World} {τ τ1 τ2 : Nat → Nat} {T : Nat → Prop} (h : Stay a b τ τ1 T) (k : Stay b c τ1 τ2 T) : Stay a c τ τ2 T :=
  ⟨Nat.le_trans h.size k.size, fun i hi => (k.tag i (Nat.lt_of_lt_of_le hi h.size)).trans (h.tag i hi), fun i hi ht => (k.blk i (Nat.lt_of_lt_of_le hi h.size) (by rw [h.tag i hi]; exact ht)).trans (h.blk i hi ht)⟩
theorem Stay.weaken {a b : World} {τ τ1 : Nat → Nat} {T T' : Nat → Prop} (h : Stay a b τ τ1 T) (k : ∀ t, T' t → T t) : Stay a b τ τ1 T' := ⟨h.size, h.tag, fun i hi ht => h.blk i hi (k _ ht)⟩
theorem Stay.setCell {a w : World} {τ τ1 : Nat → Nat} {T : Nat → Prop} (h : Stay a w τ τ1 T) (p : Addr) (u : Value) (hp : p.block < a.heap.size → ¬ T (τ p.block)) : Stay a (w.setCell p u) τ τ1 T :=
  ⟨by simpa [World.setCell] using h.size, h.tag, fun i hi ht => (Below.heap_setCell w p u i (fun e => by subst e; exact hp hi ht)).trans (h.blk i hi ht)⟩
theorem stay_push {w w2 : World} {τ : Nat → Nat} {v : Value} {t : Nat} (o : Obj) (hg : (w.alloc o).grownBy w2 v.ownBlock) (hv : Tg τ v t) : Stay w w2 τ (retag τ w.heap.size t) (fun s => s ≠ t) := by
  have hs := hg.size
  have ha : (w.alloc o).heap.size = w.heap.size + 1 := by simp
  refine ⟨by omega, fun k hk => retag_old hk, fun k hk ht => ?_⟩
  refine (hg.block k (by omega) (fun e => ht (hv k e.symm))).trans (Below.heap_alloc _ _ _ hk)
theorem tag_push {w : World} {τ : Nat → Nat} {v v' : Value} {t : Nat} (o : Obj) (hat : v'.ownBlock = v.ownBlock ∨ v'.ownBlock = some (w.alloc o).heap.size) (hv : Tg τ v t) : Tg (retag τ w.heap.size t) v' t := by
  intro k hk
  have ha : (w.alloc o).heap.size = w.heap.size + 1 := by simp
  by_cases hlt : k < w.heap.size
  · rw [retag_old hlt]
    rcases hat with h | h
    · exact hv k (h.symm.trans hk)
    · rw [h] at hk; cases hk; omega
  · exact retag_new (by omega)
theorem stay_map {w w2 : World} {τ : Nat → Nat} {m t : Nat} (hg : w.grownBy w2 (some m)) (hm : τ m = t) : Stay w w2 τ (retag τ w.heap.size t) (fun s => s ≠ t) :=
  ⟨hg.size, fun k hk => retag_old hk, fun k hk ht => hg.block k hk (fun e => ht (by cases e; exact hm))⟩

theorem map_stay {w w1 : World} {τ τ1 : Nat → Nat} {T : Nat → Prop} {m n : Nat} {D : DataW Unit} (h : w.ownsMap Try.prog 3 (plainElem Try.prog 3) m n D) (hs : Stay w w1 τ τ1 T) (ht : T (τ m)) : w1.ownsMap Try.prog 3 (plainElem Try.prog 3) m n D := by
  have hlm : m < w.heap.size := h.lt
  obtain ⟨es, clock, hb, r⟩ := h
  exact ⟨es, clock, (hs.blk m hlm ht).trans hb, r⟩
theorem row_setCell (w : World) (b i : Nat) (u : Value) (cs : Array Value) (t : TypeId) (h : w.heap[b]? = some (.cells cs t (0, 0))) : (w.setCell ⟨b, i, none⟩ u).heap[b]? = some (.cells (cs.setIfInBounds i u) t (0, 0)) := by
  simp [World.setCell, Array.getElem?_modify, h]

theorem Rep.lt {w : World} {B b : Nat} {τ : Nat → Nat} {V : Vals} {S : St} (R : Rep w B b τ V S) : b < w.heap.size := (Array.getElem?_eq_some_iff.1 R.blk).1
theorem Rep.base {w : World} {B b : Nat} {τ : Nat → Nat} {V : Vals} {S : St} (R : Rep w B b τ V S) : B ≤ w.heap.size := by have := R.hb; have := R.lt; omega

theorem cells_at {w : World} {b : Nat} {V : Vals} {S : St} (h : w.heap[b]? = some (.cells (cellsOf V S) 134 (0, 0))) :
    (w.cell? ⟨b, 0, none⟩ = some (.map (some V.m)) ∧ w.cell? ⟨b, 1, none⟩ = some V.vc ∧ w.cell? ⟨b, 2, none⟩ = some V.vin ∧ w.cell? ⟨b, 3, none⟩ = some V.vo ∧ w.cell? ⟨b, 4, none⟩ = some V.von ∧ w.cell? ⟨b, 5, none⟩ = some V.vv ∧ w.cell? ⟨b, 6, none⟩ = some V.vw ∧ w.cell? ⟨b, 7, none⟩ = some V.vt ∧ w.cell? ⟨b, 8, none⟩ = some (.int .i64 S.done) ∧ w.cell? ⟨b, 9, none⟩ = some (.int .i64 S.bad)) ∧ ∀ i, w.frozen? ⟨b, i, none⟩ = false := by
  have g := fun i => cell_of_row w b i _ _ _ h
  exact ⟨⟨g 0, g 1, g 2, g 3, g 4, g 5, g 6, g 7, g 8, g 9⟩, fun i => by simp [World.frozen?, h]⟩

theorem Rep.set_vo {w w2 : World} {B b : Nat} {τ τ2 : Nat → Nat} {V : Vals} {S : St} {v' : Value} {xs : List Int} (R : Rep w B b τ V S) (hs0 : Stay w w2 τ τ2 (fun s => s ≠ 4)) (hr : IRow w2 B τ2 4 3 .i64 v' xs) :
    Rep (w2.setCell ⟨b, 3, none⟩ v') B b τ2 { V with vo := v' } { S with opn := xs } := by
  have hb2 : w2.heap[b]? = some (.cells (cellsOf V S) 134 (0, 0)) := (hs0.blk b R.lt (by rw [R.tb]; omega)).trans R.blk
  have hs : Stay w (w2.setCell ⟨b, 3, none⟩ v') τ τ2 (fun s => s ≠ 4 ∧ s ≠ 0) := (hs0.weaken (fun s h => h.1)).setCell _ _ (fun _ h => h.2 R.tb)
  have hr' : IRow (w2.setCell ⟨b, 3, none⟩ v') B τ2 4 3 .i64 v' xs := hr.stay ((Stay.refl w2 τ2 (fun s => s ≠ 0)).setCell _ _ (fun _ h => h ((hs0.tag b R.lt).trans R.tb))) (by omega)
  exact ⟨(row_setCell _ _ _ _ _ _ hb2).trans rfl, R.hb, (hs.tag b R.lt).trans R.tb, map_stay R.map hs (by rw [R.tm]; omega), R.hm, (hs.tag _ R.map.lt).trans R.tm, R.ids, R.rc.stay hs (by omega), R.lc, fun i v c h1 h2 => (R.cl i v c h1 h2).stay hs (by omega), R.rin.stay hs (by omega), R.lin, fun i v c h1 h2 => (R.inn i v c h1 h2).stay hs (by omega), hr', R.ron.stay hs (by omega), R.rv.stay hs (by omega), R.rw.stay hs (by omega), R.rt.stay hs (by omega), R.rx.stay hs (by omega)⟩

theorem Rep.set_von {w w2 : World} {B b : Nat} {τ τ2 : Nat → Nat} {V : Vals} {S : St} {v' : Value} {xs : List Int} (R : Rep w B b τ V S) (hs0 : Stay w w2 τ τ2 (fun s => s ≠ 5)) (hr : IRow w2 B τ2 5 3 .i64 v' xs) :
    Rep (w2.setCell ⟨b, 4, none⟩ v') B b τ2 { V with von := v' } { S with on := xs } := by
  have hb2 : w2.heap[b]? = some (.cells (cellsOf V S) 134 (0, 0)) := (hs0.blk b R.lt (by rw [R.tb]; omega)).trans R.blk
  have hs : Stay w (w2.setCell ⟨b, 4, none⟩ v') τ τ2 (fun s => s ≠ 5 ∧ s ≠ 0) := (hs0.weaken (fun s h => h.1)).setCell _ _ (fun _ h => h.2 R.tb)
  have hr' : IRow (w2.setCell ⟨b, 4, none⟩ v') B τ2 5 3 .i64 v' xs := hr.stay ((Stay.refl w2 τ2 (fun s => s ≠ 0)).setCell _ _ (fun _ h => h ((hs0.tag b R.lt).trans R.tb))) (by omega)
  exact ⟨(row_setCell _ _ _ _ _ _ hb2).trans rfl, R.hb, (hs.tag b R.lt).trans R.tb, map_stay R.map hs (by rw [R.tm]; omega), R.hm, (hs.tag _ R.map.lt).trans R.tm, R.ids, R.rc.stay hs (by omega), R.lc, fun i v c h1 h2 => (R.cl i v c h1 h2).stay hs (by omega), R.rin.stay hs (by omega), R.lin, fun i v c h1 h2 => (R.inn i v c h1 h2).stay hs (by omega), R.ro.stay hs (by omega), hr', R.rv.stay hs (by omega), R.rw.stay hs (by omega), R.rt.stay hs (by omega), R.rx.stay hs (by omega)⟩

theorem Rep.set_vv {w w2 : World} {B b : Nat} {τ τ2 : Nat → Nat} {V : Vals} {S : St} {v' : Value} {xs : List Int} (R : Rep w B b τ V S) (hs0 : Stay w w2 τ τ2 (fun s => s ≠ 6)) (hr : IRow w2 B τ2 6 95 .i8 v' xs) :
    Rep (w2.setCell ⟨b, 5, none⟩ v') B b τ2 { V with vv := v' } { S with value := xs } := by
  have hb2 : w2.heap[b]? = some (.cells (cellsOf V S) 134 (0, 0)) := (hs0.blk b R.lt (by rw [R.tb]; omega)).trans R.blk
  have hs : Stay w (w2.setCell ⟨b, 5, none⟩ v') τ τ2 (fun s => s ≠ 6 ∧ s ≠ 0) := (hs0.weaken (fun s h => h.1)).setCell _ _ (fun _ h => h.2 R.tb)
  have hr' : IRow (w2.setCell ⟨b, 5, none⟩ v') B τ2 6 95 .i8 v' xs := hr.stay ((Stay.refl w2 τ2 (fun s => s ≠ 0)).setCell _ _ (fun _ h => h ((hs0.tag b R.lt).trans R.tb))) (by omega)
  exact ⟨(row_setCell _ _ _ _ _ _ hb2).trans rfl, R.hb, (hs.tag b R.lt).trans R.tb, map_stay R.map hs (by rw [R.tm]; omega), R.hm, (hs.tag _ R.map.lt).trans R.tm, R.ids, R.rc.stay hs (by omega), R.lc, fun i v c h1 h2 => (R.cl i v c h1 h2).stay hs (by omega), R.rin.stay hs (by omega), R.lin, fun i v c h1 h2 => (R.inn i v c h1 h2).stay hs (by omega), R.ro.stay hs (by omega), R.ron.stay hs (by omega), hr', R.rw.stay hs (by omega), R.rt.stay hs (by omega), R.rx.stay hs (by omega)⟩

theorem Rep.set_vw {w w2 : World} {B b : Nat} {τ τ2 : Nat → Nat} {V : Vals} {S : St} {v' : Value} {xs : List Int} (R : Rep w B b τ V S) (hs0 : Stay w w2 τ τ2 (fun s => s ≠ 7)) (hr : IRow w2 B τ2 7 3 .i64 v' xs) :
    Rep (w2.setCell ⟨b, 6, none⟩ v') B b τ2 { V with vw := v' } { S with why := xs } := by
  have hb2 : w2.heap[b]? = some (.cells (cellsOf V S) 134 (0, 0)) := (hs0.blk b R.lt (by rw [R.tb]; omega)).trans R.blk
  have hs : Stay w (w2.setCell ⟨b, 6, none⟩ v') τ τ2 (fun s => s ≠ 7 ∧ s ≠ 0) := (hs0.weaken (fun s h => h.1)).setCell _ _ (fun _ h => h.2 R.tb)
  have hr' : IRow (w2.setCell ⟨b, 6, none⟩ v') B τ2 7 3 .i64 v' xs := hr.stay ((Stay.refl w2 τ2 (fun s => s ≠ 0)).setCell _ _ (fun _ h => h ((hs0.tag b R.lt).trans R.tb))) (by omega)
  exact ⟨(row_setCell _ _ _ _ _ _ hb2).trans rfl, R.hb, (hs.tag b R.lt).trans R.tb, map_stay R.map hs (by rw [R.tm]; omega), R.hm, (hs.tag _ R.map.lt).trans R.tm, R.ids, R.rc.stay hs (by omega), R.lc, fun i v c h1 h2 => (R.cl i v c h1 h2).stay hs (by omega), R.rin.stay hs (by omega), R.lin, fun i v c h1 h2 => (R.inn i v c h1 h2).stay hs (by omega), R.ro.stay hs (by omega), R.ron.stay hs (by omega), R.rv.stay hs (by omega), hr', R.rt.stay hs (by omega), R.rx.stay hs (by omega)⟩

theorem Rep.set_vt {w w2 : World} {B b : Nat} {τ τ2 : Nat → Nat} {V : Vals} {S : St} {v' : Value} {xs : List Int} (R : Rep w B b τ V S) (hs0 : Stay w w2 τ τ2 (fun s => s ≠ 8)) (hr : IRow w2 B τ2 8 3 .i64 v' xs) :
    Rep (w2.setCell ⟨b, 7, none⟩ v') B b τ2 { V with vt := v' } { S with trail := xs } := by
  have hb2 : w2.heap[b]? = some (.cells (cellsOf V S) 134 (0, 0)) := (hs0.blk b R.lt (by rw [R.tb]; omega)).trans R.blk
  have hs : Stay w (w2.setCell ⟨b, 7, none⟩ v') τ τ2 (fun s => s ≠ 8 ∧ s ≠ 0) := (hs0.weaken (fun s h => h.1)).setCell _ _ (fun _ h => h.2 R.tb)
  have hr' : IRow (w2.setCell ⟨b, 7, none⟩ v') B τ2 8 3 .i64 v' xs := hr.stay ((Stay.refl w2 τ2 (fun s => s ≠ 0)).setCell _ _ (fun _ h => h ((hs0.tag b R.lt).trans R.tb))) (by omega)
  exact ⟨(row_setCell _ _ _ _ _ _ hb2).trans rfl, R.hb, (hs.tag b R.lt).trans R.tb, map_stay R.map hs (by rw [R.tm]; omega), R.hm, (hs.tag _ R.map.lt).trans R.tm, R.ids, R.rc.stay hs (by omega), R.lc, fun i v c h1 h2 => (R.cl i v c h1 h2).stay hs (by omega), R.rin.stay hs (by omega), R.lin, fun i v c h1 h2 => (R.inn i v c h1 h2).stay hs (by omega), R.ro.stay hs (by omega), R.ron.stay hs (by omega), R.rv.stay hs (by omega), R.rw.stay hs (by omega), hr', R.rx.stay hs (by omega)⟩

theorem Rep.set_done {w : World} {B b : Nat} {τ : Nat → Nat} {V : Vals} {S : St} (R : Rep w B b τ V S) (x : Int) :
    Rep (w.setCell ⟨b, 8, none⟩ (.int .i64 x)) B b τ V { S with done := x } := by
  have hs : Stay w (w.setCell ⟨b, 8, none⟩ (.int .i64 x)) τ τ (fun s => s ≠ 0) := (Stay.refl w τ _).setCell _ _ (fun _ h => h R.tb)
  exact ⟨(row_setCell _ _ _ _ _ _ R.blk).trans rfl, R.hb, (hs.tag b R.lt).trans R.tb, map_stay R.map hs (by rw [R.tm]; omega), R.hm, (hs.tag _ R.map.lt).trans R.tm, R.ids, R.rc.stay hs (by omega), R.lc, fun i v c h1 h2 => (R.cl i v c h1 h2).stay hs (by omega), R.rin.stay hs (by omega), R.lin, fun i v c h1 h2 => (R.inn i v c h1 h2).stay hs (by omega), R.ro.stay hs (by omega), R.ron.stay hs (by omega), R.rv.stay hs (by omega), R.rw.stay hs (by omega), R.rt.stay hs (by omega), R.rx.stay hs (by omega)⟩

theorem Rep.set_bad {w : World} {B b : Nat} {τ : Nat → Nat} {V : Vals} {S : St} (R : Rep w B b τ V S) (x : Int) :
    Rep (w.setCell ⟨b, 9, none⟩ (.int .i64 x)) B b τ V { S with bad := x } := by
  have hs : Stay w (w.setCell ⟨b, 9, none⟩ (.int .i64 x)) τ τ (fun s => s ≠ 0) := (Stay.refl w τ _).setCell _ _ (fun _ h => h R.tb)
  exact ⟨(row_setCell _ _ _ _ _ _ R.blk).trans rfl, R.hb, (hs.tag b R.lt).trans R.tb, map_stay R.map hs (by rw [R.tm]; omega), R.hm, (hs.tag _ R.map.lt).trans R.tm, R.ids, R.rc.stay hs (by omega), R.lc, fun i v c h1 h2 => (R.cl i v c h1 h2).stay hs (by omega), R.rin.stay hs (by omega), R.lin, fun i v c h1 h2 => (R.inn i v c h1 h2).stay hs (by omega), R.ro.stay hs (by omega), R.ron.stay hs (by omega), R.rv.stay hs (by omega), R.rw.stay hs (by omega), R.rt.stay hs (by omega), R.rx.stay hs (by omega)⟩

theorem own_put {w : World} {B : Nat} {e : TypeId} {k : IntKind} {v : Value} {xs : List Int} {g n c : Nat} (h : w.ownsRow B e 1 (.slice (some ⟨g, 0, none⟩) n c) (ints k xs).length (ints k xs)) (hv : v = .slice (some ⟨g, 0, none⟩) n c) (i : Nat) (x : Int) :
    (w.setCell ⟨g, i, none⟩ (.int k x)).ownsRow B e 1 v (ints k (xs.set i x)).length (ints k (xs.set i x)) := by
  subst hv
  obtain ⟨h1, h2⟩ := h
  have hl : (ints k (xs.set i x)).length = (ints k xs).length := by simp [ints]
  refine ⟨by omega, ?_⟩
  rcases h2 with ⟨h2, h3⟩ | ⟨g', cap, cur, hv, hg, hh, hc, hm, hcs, ht⟩
  · cases h2
  · simp only [Value.slice.injEq, Option.some.injEq, Addr.mk.injEq] at hv
    obtain ⟨⟨rfl, _⟩, rfl, rfl⟩ := hv
    refine .inr ⟨g, c, cur.setIfInBounds i (.int k x), by rw [hl], hg, row_setCell _ _ _ _ _ _ hh, by rw [hl]; exact hc, hm, by simpa using hcs, ?_⟩
    have hi : ints k (xs.set i x) = (ints k xs).set i (.int k x) := by simp [ints, List.map_set]
    rw [hi, Array.toList_setIfInBounds, List.length_set, List.take_set, ht]
theorem Rep.put_vo {w : World} {B b : Nat} {τ : Nat → Nat} {V : Vals} {S : St} (R : Rep w B b τ V S) {g n c : Nat} (hv : V.vo = .slice (some ⟨g, 0, none⟩) n c) (i : Nat) (x : Int) :
    Rep (w.setCell ⟨g, i, none⟩ (.int .i64 x)) B b τ V { S with opn := S.opn.set i x } := by
  have hg : τ g = 4 := R.ro.tag g (by rw [hv]; simp [Value.ownBlock])
  have hs : Stay w (w.setCell ⟨g, i, none⟩ (.int .i64 x)) τ τ (fun s => s ≠ 4) := (Stay.refl w τ _).setCell _ _ (fun _ h => h hg)
  have hr : IRow (w.setCell ⟨g, i, none⟩ (.int .i64 x)) B τ 4 3 .i64 V.vo (S.opn.set i x) := ⟨own_put (hv ▸ R.ro.own) hv i x, R.ro.tag⟩
  exact ⟨(hs.blk b R.lt (by rw [R.tb]; omega)).trans R.blk, R.hb, (hs.tag b R.lt).trans R.tb, map_stay R.map hs (by rw [R.tm]; omega), R.hm, (hs.tag _ R.map.lt).trans R.tm, R.ids, R.rc.stay hs (by omega), R.lc, fun i v c h1 h2 => (R.cl i v c h1 h2).stay hs (by omega), R.rin.stay hs (by omega), R.lin, fun i v c h1 h2 => (R.inn i v c h1 h2).stay hs (by omega), hr, R.ron.stay hs (by omega), R.rv.stay hs (by omega), R.rw.stay hs (by omega), R.rt.stay hs (by omega), R.rx.stay hs (by omega)⟩

theorem Rep.put_von {w : World} {B b : Nat} {τ : Nat → Nat} {V : Vals} {S : St} (R : Rep w B b τ V S) {g n c : Nat} (hv : V.von = .slice (some ⟨g, 0, none⟩) n c) (i : Nat) (x : Int) :
    Rep (w.setCell ⟨g, i, none⟩ (.int .i64 x)) B b τ V { S with on := S.on.set i x } := by
  have hg : τ g = 5 := R.ron.tag g (by rw [hv]; simp [Value.ownBlock])
  have hs : Stay w (w.setCell ⟨g, i, none⟩ (.int .i64 x)) τ τ (fun s => s ≠ 5) := (Stay.refl w τ _).setCell _ _ (fun _ h => h hg)
  have hr : IRow (w.setCell ⟨g, i, none⟩ (.int .i64 x)) B τ 5 3 .i64 V.von (S.on.set i x) := ⟨own_put (hv ▸ R.ron.own) hv i x, R.ron.tag⟩
  exact ⟨(hs.blk b R.lt (by rw [R.tb]; omega)).trans R.blk, R.hb, (hs.tag b R.lt).trans R.tb, map_stay R.map hs (by rw [R.tm]; omega), R.hm, (hs.tag _ R.map.lt).trans R.tm, R.ids, R.rc.stay hs (by omega), R.lc, fun i v c h1 h2 => (R.cl i v c h1 h2).stay hs (by omega), R.rin.stay hs (by omega), R.lin, fun i v c h1 h2 => (R.inn i v c h1 h2).stay hs (by omega), R.ro.stay hs (by omega), hr, R.rv.stay hs (by omega), R.rw.stay hs (by omega), R.rt.stay hs (by omega), R.rx.stay hs (by omega)⟩

theorem Rep.put_vv {w : World} {B b : Nat} {τ : Nat → Nat} {V : Vals} {S : St} (R : Rep w B b τ V S) {g n c : Nat} (hv : V.vv = .slice (some ⟨g, 0, none⟩) n c) (i : Nat) (x : Int) :
    Rep (w.setCell ⟨g, i, none⟩ (.int .i8 x)) B b τ V { S with value := S.value.set i x } := by
  have hg : τ g = 6 := R.rv.tag g (by rw [hv]; simp [Value.ownBlock])
  have hs : Stay w (w.setCell ⟨g, i, none⟩ (.int .i8 x)) τ τ (fun s => s ≠ 6) := (Stay.refl w τ _).setCell _ _ (fun _ h => h hg)
  have hr : IRow (w.setCell ⟨g, i, none⟩ (.int .i8 x)) B τ 6 95 .i8 V.vv (S.value.set i x) := ⟨own_put (hv ▸ R.rv.own) hv i x, R.rv.tag⟩
  exact ⟨(hs.blk b R.lt (by rw [R.tb]; omega)).trans R.blk, R.hb, (hs.tag b R.lt).trans R.tb, map_stay R.map hs (by rw [R.tm]; omega), R.hm, (hs.tag _ R.map.lt).trans R.tm, R.ids, R.rc.stay hs (by omega), R.lc, fun i v c h1 h2 => (R.cl i v c h1 h2).stay hs (by omega), R.rin.stay hs (by omega), R.lin, fun i v c h1 h2 => (R.inn i v c h1 h2).stay hs (by omega), R.ro.stay hs (by omega), R.ron.stay hs (by omega), hr, R.rw.stay hs (by omega), R.rt.stay hs (by omega), R.rx.stay hs (by omega)⟩

theorem Rep.put_vw {w : World} {B b : Nat} {τ : Nat → Nat} {V : Vals} {S : St} (R : Rep w B b τ V S) {g n c : Nat} (hv : V.vw = .slice (some ⟨g, 0, none⟩) n c) (i : Nat) (x : Int) :
    Rep (w.setCell ⟨g, i, none⟩ (.int .i64 x)) B b τ V { S with why := S.why.set i x } := by
  have hg : τ g = 7 := R.rw.tag g (by rw [hv]; simp [Value.ownBlock])
  have hs : Stay w (w.setCell ⟨g, i, none⟩ (.int .i64 x)) τ τ (fun s => s ≠ 7) := (Stay.refl w τ _).setCell _ _ (fun _ h => h hg)
  have hr : IRow (w.setCell ⟨g, i, none⟩ (.int .i64 x)) B τ 7 3 .i64 V.vw (S.why.set i x) := ⟨own_put (hv ▸ R.rw.own) hv i x, R.rw.tag⟩
  exact ⟨(hs.blk b R.lt (by rw [R.tb]; omega)).trans R.blk, R.hb, (hs.tag b R.lt).trans R.tb, map_stay R.map hs (by rw [R.tm]; omega), R.hm, (hs.tag _ R.map.lt).trans R.tm, R.ids, R.rc.stay hs (by omega), R.lc, fun i v c h1 h2 => (R.cl i v c h1 h2).stay hs (by omega), R.rin.stay hs (by omega), R.lin, fun i v c h1 h2 => (R.inn i v c h1 h2).stay hs (by omega), R.ro.stay hs (by omega), R.ron.stay hs (by omega), R.rv.stay hs (by omega), hr, R.rt.stay hs (by omega), R.rx.stay hs (by omega)⟩

end Go.Proofs.Ytfljggodnnpeiaa.Spr

namespace Go.Proofs.Ytfljggodnnpeiaa.Spr
open Go.RowKit Go.Maps Go.Proofs.Ytfljggodnnpeiaa.Lit
set_option linter.unusedVariables false

theorem ints_snoc (k : IntKind) (xs : List Int) (x : Int) : ints k (xs ++ [x]) = ints k xs ++ [.int k x] := by simp [ints]
theorem row_snoc {w : World} {B : Nat} {e : TypeId} {k : IntKind} {v : Value} {xs : List Int} {x : Int} (h : w.ownsRow B e 1 v ((ints k xs).length + 1) (ints k xs ++ [.int k x])) : w.ownsRow B e 1 v (ints k (xs ++ [x])).length (ints k (xs ++ [x])) := by
  rw [ints_snoc, List.length_append]; exact h
theorem row_app {w : World} {B : Nat} {e : TypeId} {v : Value} {xs ys : List Value} {m : Nat} (h : w.ownsRow B e 1 v (xs.length + m) (xs ++ ys)) (hm : ys.length = m) : w.ownsRow B e 1 v (xs ++ ys).length (xs ++ ys) := by
  rw [List.length_append, hm]; exact h
theorem own_slice {w : World} {base n : Nat} {e : TypeId} {size : Nat} {v : Value} {xs : List Value} (h : w.ownsRow base e size v n xs) : ∃ A c, v = .slice A n c := by
  rcases h.2 with ⟨rfl, rfl⟩ | ⟨g, cap, cur, rfl, _⟩
  · exact ⟨_, _, rfl⟩
  · exact ⟨_, _, rfl⟩
theorem two_new (w : World) (x y : Value) (t : TypeId) : ∀ j u, [x, y][j]? = some u → (w.alloc (.cells #[x, y] t)).cell? ((⟨w.heap.size, 0, none⟩ : Addr).add j) = some u := by
  intro j u hj
  match j, hj with
  | 0, hj => simp at hj; subst hj; simp [Addr.add]
  | 1, hj => simp at hj; subst hj; simp [Addr.add]

theorem IsKeyLit_int (v : Int) : WideAt.IsKeyLit (.int .i64 v) := trivial

theorem MapIs.put {D : DataW Unit} {ids : List Int} (h : MapIs D ids) (hD : IsMap D) (v : Int) (hv : ids.contains v = false) : MapIs (D.put (.int .i64 v) (dI ids.length)) (ids ++ [v]) := by
  intro x
  by_cases hx : x = v
  · subst hx
    refine ⟨?_, fun _ => ?_⟩
    · rw [has_put_same hD (IsKeyLit_int x)]; simp
    · rw [atKey_put_same hD (IsKeyLit_int x)]
      rw [List.idxOf_append, if_neg (by simpa using hv)]
      simp
  · have hne : (Lit.int .i64 x) ≠ (Lit.int .i64 v) := fun e => hx (by injection e)
    refine ⟨?_, fun hc => ?_⟩
    · rw [has_put_other hne, (h x).1]; simp [hx]
    · have hc' : ids.contains x = true := by simpa [hx] using hc
      rw [atKey_put_other hne, (h x).2 hc']
      rw [List.idxOf_append, if_pos (by simpa using hc')]

theorem Rep.set_map {w w1 : World} {B b : Nat} {τ τ1 : Nat → Nat} {V : Vals} {S : St} (R : Rep w B b τ V S) (hs : Stay w w1 τ τ1 (fun s => s ≠ 1)) (v : Int) (hv : S.ids.contains v = false)
    (ho : w1.ownsMap Try.prog 3 (plainElem Try.prog 3) V.m (S.ids.length + 1) (V.D.put (.int .i64 v) (dI S.ids.length))) :
    Rep w1 B b τ1 { V with D := V.D.put (.int .i64 v) (dI S.ids.length) } { S with ids := S.ids ++ [v] } :=
  ⟨(hs.blk b R.lt (by rw [R.tb]; omega)).trans R.blk, R.hb, (hs.tag b R.lt).trans R.tb, by simpa using ho, R.hm, (hs.tag _ R.map.lt).trans R.tm, R.ids.put R.map.isMap v hv, R.rc.stay hs (by omega), R.lc, fun i v c h1 h2 => (R.cl i v c h1 h2).stay hs (by omega), R.rin.stay hs (by omega), R.lin, fun i v c h1 h2 => (R.inn i v c h1 h2).stay hs (by omega), R.ro.stay hs (by omega), R.ron.stay hs (by omega), R.rv.stay hs (by omega), R.rw.stay hs (by omega), R.rt.stay hs (by omega), R.rx.stay hs (by omega)⟩

theorem Rep.push_in {w w2 : World} {B b : Nat} {τ τ2 : Nat → Nat} {V : Vals} {S : St} {v' : Value} (R : Rep w B b τ V S) (hs0 : Stay w w2 τ τ2 (fun s => s ≠ 3)) (hr : Row w2 B τ2 3 25 v' (V.inn ++ [.slice none 0 0, .slice none 0 0])) :
    Rep (w2.setCell ⟨b, 2, none⟩ v') B b τ2 { V with vin := v', inn := V.inn ++ [.slice none 0 0, .slice none 0 0] } { S with inn := S.inn ++ [[], []] } := by
  have hb2 : w2.heap[b]? = some (.cells (cellsOf V S) 134 (0, 0)) := (hs0.blk b R.lt (by rw [R.tb]; omega)).trans R.blk
  have hs : Stay w (w2.setCell ⟨b, 2, none⟩ v') τ τ2 (fun s => s ≠ 3 ∧ s ≠ 0) := (hs0.weaken (fun s h => h.1)).setCell _ _ (fun _ h => h.2 R.tb)
  have hr' : Row (w2.setCell ⟨b, 2, none⟩ v') B τ2 3 25 v' (V.inn ++ [.slice none 0 0, .slice none 0 0]) := hr.stay ((Stay.refl w2 τ2 (fun s => s ≠ 0)).setCell _ _ (fun _ h => h ((hs0.tag b R.lt).trans R.tb))) (by omega)
  refine ⟨(row_setCell _ _ _ _ _ _ hb2).trans rfl, R.hb, (hs.tag b R.lt).trans R.tb, map_stay R.map hs (by rw [R.tm]; omega), R.hm, (hs.tag _ R.map.lt).trans R.tm, R.ids, R.rc.stay hs (by omega), R.lc, fun i v c h1 h2 => (R.cl i v c h1 h2).stay hs (by omega), hr', by simp [R.lin], ?_, R.ro.stay hs (by omega), R.ron.stay hs (by omega), R.rv.stay hs (by omega), R.rw.stay hs (by omega), R.rt.stay hs (by omega), R.rx.stay hs (by omega)⟩
  intro i v c h1 h2
  have hl := R.lin
  by_cases hi : i < V.inn.length
  · simp only [List.getElem?_append_left hi] at h1
    simp only [List.getElem?_append_left (hl ▸ hi)] at h2
    exact (R.inn i v c h1 h2).stay hs (by omega)
  · simp only [List.getElem?_append_right (Nat.le_of_not_lt hi)] at h1
    simp only [List.getElem?_append_right (Nat.le_of_not_lt (hl ▸ hi))] at h2
    have hv : v = .slice none 0 0 := by
      match hj : i - V.inn.length, h1 with
      | 0, h => simpa [hj] using h.symm
      | 1, h => simpa [hj] using h.symm
    have hc : c = [] := by
      match hj : i - S.inn.length, h2 with
      | 0, h => simpa [hj] using h.symm
      | 1, h => simpa [hj] using h.symm
    subst hv hc
    exact ⟨⟨by simp [ints], .inl ⟨rfl, rfl⟩⟩, Tg.nil _ _ _ _⟩

abbrev KL := List Value × List Value × Value × List Int
def Kp (L L' : KL) : Prop := L.1 <+: L'.1 ∧ L'.2 = L.2
def Vals.kp (V : Vals) : KL := (V.inn, V.cl, V.vx, V.xx)
theorem Kp.refl (L : KL) : Kp L L := ⟨List.prefix_refl _, rfl⟩
theorem Kp.trans {a b c : KL} (h : Kp a b) (k : Kp b c) : Kp a c := ⟨h.1.trans k.1, k.2.trans h.2⟩
def Led (w : World) (B b : Nat) (L : KL) (S : St) (w' : World) : Prop := ∃ τ' V', Rep w' B b τ' V' S ∧ Below B w w' ∧ Kp L V'.kp
theorem Led.mk {w w' : World} {B b : Nat} {L : KL} {S : St} {τ' : Nat → Nat} {V' : Vals} (R : Rep w' B b τ' V' S) (hb : Below B w w') (hp : Kp L V'.kp) : Led w B b L S w' := ⟨τ', V', R, hb, hp⟩
theorem below_drewN {B : Nat} {a w : World} (h : Below B a w) (n : Nat) : Below B a (w.drewN n) := ⟨h.os, h.tape, h.output, h.size, h.block⟩
theorem Led.drewN {w w1 : World} {B b : Nat} {L : KL} {S : St} (h : Led w B b L S w1) (n : Nat) : Led w B b L S (w1.drewN n) := by
  obtain ⟨τ1, V1, R, hb, hp⟩ := h
  exact ⟨τ1, V1, R.stay (Stay.drewN _ _ _ n), ⟨hb.os, hb.tape, hb.output, hb.size, hb.block⟩, hp⟩
theorem Led.after {w w1 w2 : World} {B b : Nat} {L L1 : KL} {S : St} (h : Led w1 B b L1 S w2) (hb : Below B w w1) (hp : Kp L L1) : Led w B b L S w2 := by
  obtain ⟨τ1, V1, R, hb1, hp1⟩ := h
  exact ⟨τ1, V1, R, hb.trans hb1, hp.trans hp1⟩
theorem drawn_below (B : Nat) (w : World) (n : Nat) : Below B w (w.drewN n) := below_drewN (Below.refl B w) n
def newPlace (S : St) (v : Int) : St := { S with ids := S.ids ++ [v], value := S.value ++ [0], why := S.why ++ [-1], inn := S.inn ++ [[], []] }

end Go.Proofs.Ytfljggodnnpeiaa.Spr

namespace Go.Proofs.Ytfljggodnnpeiaa.Spr
open Go.RowKit Go.Maps Go.Proofs.Ytfljggodnnpeiaa.Lit
set_option linter.unusedVariables false

theorem pix_new {ids : List Int} {l : Int} (hk : ids.contains (lv l) = false) : pix (ids ++ [lv l]) l = if l < 0 then 2 * (ids.length : Int) + 1 else 2 * (ids.length : Int) := by
  have h : (ids ++ [lv l]).idxOf (lv l) = ids.length := by
    rw [List.idxOf_append, if_neg (by simpa using hk)]
    simp
  unfold pix
  rw [h]

theorem base_alloc {w : World} {B : Nat} (h : B ≤ w.heap.size) (o : Obj) : B ≤ (w.alloc o).heap.size := by simp; omega
theorem one_new {w : World} (x : Value) (t : TypeId) {n : Nat} (h : n = w.heap.size) : ∀ j u, [x][j]? = some u → (w.alloc (.cells #[x] t)).cell? ((⟨n, 0, none⟩ : Addr).add j) = some u := by subst h; exact cell_one_new w x t
theorem two_new' {w : World} (x y : Value) (t : TypeId) {n : Nat} (h : n = w.heap.size) : ∀ j u, [x, y][j]? = some u → (w.alloc (.cells #[x, y] t)).cell? ((⟨n, 0, none⟩ : Addr).add j) = some u := by subst h; exact two_new w x y t
theorem below_push {w w2 : World} {row : Option Nat} {B : Nat} (o : Obj) (hg : (w.alloc o).grownBy w2 row) (hB : B ≤ w.heap.size) (hr : ∀ k, row = some k → B ≤ k) : Below B w w2 :=
  ((Below.refl B w).alloc hB o).trans ((Below.refl B _).grown hg (by simp; omega) hr)
theorem below_stay {w w1 : World} {row : Option Nat} {B : Nat} (hg : w.grownBy w1 row) (hB : B ≤ w.heap.size) (hr : ∀ k, row = some k → B ≤ k) : Below B w w1 := (Below.refl B w).grown hg hB hr

set_option maxHeartbeats 1000000 in
set_option maxRecDepth 100000 in
theorem place_new {w : World} {B b : Nat} {τ : Nat → Nat} {V : Vals} {S : St} (R : Rep w B b τ V S) (l : Int) (hk : S.ids.contains (lv l) = false)
    (hn : S.ids.length ≤ 2097152) (hvl : S.value.length = S.ids.length) (hwl : S.why.length = S.ids.length) (hil : S.inn.length = 2 * S.ids.length) :
    Calls Try.prog 114 #[.pointer (some ⟨b, 0, none⟩), .int .i64 l] w fun e w' => e = .returned (.int .i64 (pix (S.ids ++ [lv l]) l)) ∧ Led w B b V.kp (newPlace S (lv l)) w' := by
  obtain ⟨i8, hi8, z81, z82, z83⟩ := info_parts info8
  obtain ⟨i3, hi3, z31, z32, z33⟩ := info_parts info3
  obtain ⟨iI, hiI, zI1, zI2, zI3⟩ := info_parts infoI
  obtain ⟨Av, cv, hvv⟩ := own_slice R.rv.own
  rw [ints_len, hvl] at hvv
  obtain ⟨m, vc, vin, vo, von, vv, vw, vt, cl, inn, D⟩ := V
  dsimp only at hvv
  subst hvv
  obtain ⟨⟨c0, c1, c2, c3, c4, c5, c6, c7, c8, c9⟩, hfr⟩ := cells_at R.blk
  clear c1 c2 c3 c4 c6 c7 c8 c9 hfr
  have hb0 := lv_bd l
  have hkey := keyOf_int_mk (P := Try.prog) Try.underlying3 (a := lv l) (WalkArith.wf_i64 (by omega))
  have hh : Maps.has D (.int .i64 (lv l)) = false := (R.ids (lv l)).1.trans hk
  have hi1 : (S.ids.length : Int) ≤ 2097152 := by omega
  have hi0 : (0 : Int) ≤ (S.ids.length : Int) := by omega
  rw [pix_new hk]
  have Hk := Lib.hid hk
  have Hvl := Lib.hid hvl
  have Hwl := Lib.hid hwl
  have Hil := Lib.hid hil
  have HR := Lib.hid R
  have HR0 := Lib.hid R
  have Hi8 := Lib.hid (And.intro hi8 (And.intro z81 (And.intro z82 z83)))
  have Hi3 := Lib.hid (And.intro hi3 (And.intro z31 (And.intro z32 z33)))
  have HiI := Lib.hid (And.intro hiI (And.intro zI1 (And.intro zI2 zI3)))
  have HB0 : B ≤ w.heap.size := R.base
  clear hk hvl hwl hil R hi8 z81 z82 z83 hi3 z31 z32 z33 hiI zI1 zI2 zI3
  go_enter Try.func114, Try.ntmps114
  go_wp2_with (first
    | (go_at_call 112; refine (var_any _ _).mono ?_; rintro e w' ⟨rfl, rfl⟩)
    | (at_lookup; refine wpList_lookup_own_ok_int _ rfl _ _ 88 rfl 3 3 .i64 law3 Try.underlying88 Try.underlying3 (zero3 _) m _ D rfl HR.out.map _ _ rfl hkey ?_; intro c hat hwc; clear hat hwc)
    | (at_mapUpdate; refine wpList_mapUpdate_own _ rfl _ _ _ 88 rfl 3 3 law3 Try.underlying88 _ m _ D rfl HR.out.map (by unfold maxLen; omega) _ _ _ rfl rfl hkey _ [] (plainElem_int Try.underlying3 (WalkArith.wf_i64 (by omega))) ?_; intro w1 hown1 hgrow1; have HR1 := Lib.hid (HR.out.set_map (stay_map hgrow1 HR.out.tm) (lv l) Hk.out hown1); have HB1 := Lib.hid (below_stay hgrow1 HB0 (fun k e => by cases e; exact HR.out.hm)); have hz1 : B ≤ w1.heap.size := HR1.out.base; obtain ⟨⟨d0, d1, d2, d3, d4, d5, d6, d7, d8, d9⟩, hf1⟩ := cells_at HR1.out.blk; clear d0 d1 d2 d3 d4 d6 d7 d8 d9 hown1 hgrow1; dsimp only at d5)
    | (at_builtin; refine wpList_append_own_at _ rfl (.tmp 36) (.tmp 37) 132 rfl B 95 i8 (.int .i8 0) 1 1 Try.underlying132 Hi8.out.1 Hi8.out.2.1 Hi8.out.2.2.1 Hi8.out.2.2.2 rfl (by decide) _ _ _ rfl (HR1.out.rv.own.alloc _) ⟨w1.heap.size, 0, none⟩ 1 1 [.int .i8 0] rfl rfl (one_new _ _ rfl) (by simp [Value.oneCell']) ?_ ?_ ?_ ?_; (simp only [ints_len]; rw [Hvl.out]; unfold maxLen; omega); (simp only [ints_len]; rw [Hvl.out]; omega); (exact base_alloc HR1.out.base _); intro v2 w2 hown2 hgrow2 hnil2 hat2; obtain ⟨A2, k2, rfl⟩ := own_slice hown2; have hs2 := stay_push _ hgrow2 HR1.out.rv.tag; have HR2 := Lib.hid (HR1.out.set_vv hs2 ⟨row_snoc (x := 0) hown2, tag_push _ hat2 HR1.out.rv.tag⟩); have HB2 := Lib.hid (HB1.out.trans (below_push _ hgrow2 HR1.out.base (own_base HR1.out.rv.own))); obtain ⟨⟨d0, d1, d2, d3, d4, d5, d6, d7, d8, d9⟩, hf2⟩ := cells_at ((hs2.blk b HR1.out.lt (by rw [HR1.out.tb]; decide)).trans HR1.out.blk); dsimp only at d5 d6 d2; clear d0 d1 d3 d4 d7 d8 d9 hown2 hgrow2 hnil2 hat2 hs2)
    | (at_builtin; refine wpList_append_own_at _ rfl (.tmp 45) (.tmp 46) 25 rfl B 3 i3 (.int .i64 0) 1 8 Try.underlying25 Hi3.out.1 Hi3.out.2.1 Hi3.out.2.2.1 Hi3.out.2.2.2 rfl (by decide) _ _ _ rfl (HR2.out.rw.own.alloc _) ⟨w2.heap.size, 0, none⟩ 1 1 [.int .i64 (-1)] rfl rfl (one_new _ _ (by simp [World.setCell])) (by simp [Value.oneCell']) ?_ ?_ ?_ ?_; (simp only [ints_len]; rw [Hwl.out]; unfold maxLen; omega); (simp only [ints_len]; rw [Hwl.out]; omega); (exact base_alloc HR2.out.base _); intro v3 w3 hown3 hgrow3 hnil3 hat3; obtain ⟨A3, k3, rfl⟩ := own_slice hown3; have hs3 := stay_push _ hgrow3 HR2.out.rw.tag; have HR3 := Lib.hid (HR2.out.set_vw hs3 ⟨row_snoc (x := -1) hown3, tag_push _ hat3 HR2.out.rw.tag⟩); have HB3 := Lib.hid (HB2.out.trans (((Below.refl B _).setCell HR2.out.hb _).trans (below_push _ hgrow3 HR2.out.base (own_base HR2.out.rw.own)))); obtain ⟨⟨d0, d1, d2, d3, d4, d5, d6, d7, d8, d9⟩, hf3⟩ := cells_at ((hs3.blk b HR2.out.lt (by rw [HR2.out.tb]; decide)).trans HR2.out.blk); dsimp only at d5 d6 d2; clear d0 d1 d3 d4 d7 d8 d9 hown3 hgrow3 hnil3 hat3 hs3)
    | (at_builtin; refine wpList_append_own_at _ rfl (.tmp 54) (.tmp 55) 22 rfl B 25 iI (.slice none 0 0) 1 24 Try.underlying22 HiI.out.1 HiI.out.2.1 HiI.out.2.2.1 HiI.out.2.2.2 rfl (by decide) _ _ _ rfl (HR3.out.rin.own.alloc _) ⟨w3.heap.size, 0, none⟩ 2 2 [.slice none 0 0, .slice none 0 0] rfl rfl (two_new' _ _ _ (by simp [World.setCell])) (by simp [Value.oneCell']) ?_ ?_ ?_ ?_; (try dsimp only; rw [HR0.out.lin, Hil.out]; unfold maxLen; omega); (try dsimp only; rw [HR0.out.lin, Hil.out]; omega); (exact base_alloc HR3.out.base _); intro v4 w4 hown4 hgrow4 hnil4 hat4; obtain ⟨A4, k4, rfl⟩ := own_slice hown4; have hs4 := stay_push _ hgrow4 HR3.out.rin.tag; have HR4 := Lib.hid (HR3.out.push_in hs4 ⟨row_app hown4 rfl, tag_push _ hat4 HR3.out.rin.tag⟩); have HB4 := Lib.hid (HB3.out.trans (((Below.refl B _).setCell HR3.out.hb _).trans (below_push _ hgrow4 HR3.out.base (own_base HR3.out.rin.own)))); obtain ⟨⟨d0, d1, d2, d3, d4, d5, d6, d7, d8, d9⟩, hf4⟩ := cells_at ((hs4.blk b HR3.out.lt (by rw [HR3.out.tb]; decide)).trans HR3.out.blk); dsimp only at d5 d6 d2; clear d0 d1 d3 d4 d7 d8 d9 hown4 hgrow4 hnil4 hat4 hs4)
    )
  all_goals
    go_ret
    exact ⟨rfl, Led.mk HR4.out (HB4.out.trans ((Below.refl B _).setCell (p := ⟨b, 2, none⟩) HR0.out.hb _)) ⟨List.prefix_append _ _, rfl⟩⟩

end Go.Proofs.Ytfljggodnnpeiaa.Spr

namespace Go.Proofs.Ytfljggodnnpeiaa.Spr
open Go.RowKit Go.Maps Go.Proofs.Ytfljggodnnpeiaa.Lit
set_option linter.unusedVariables false

theorem Row.form {w : World} {B : Nat} {τ : Nat → Nat} {t : Nat} {e : TypeId} {v : Value} {xs : List Value} (h : Row w B τ t e v xs) (hp : 0 < xs.length) :
    ∃ g c, v = .slice (some ⟨g, 0, none⟩) xs.length c ∧ B ≤ g ∧ τ g = t ∧ g < w.heap.size ∧ xs.length ≤ c ∧ (∀ (i : Nat) (x : Value), xs[i]? = some x → w.cell? ⟨g, i, none⟩ = some x) ∧ ∀ i, w.frozen? ⟨g, i, none⟩ = false := by
  obtain ⟨⟨h1, h2⟩, ht⟩ := h
  rcases h2 with ⟨rfl, h3⟩ | ⟨g, cap, cur, rfl, hg, hh, hc, hm, hcs, hk⟩
  · omega
  · refine ⟨g, cap, rfl, hg, ht g (by simp [Value.ownBlock]), (Array.getElem?_eq_some_iff.1 hh).1, hc, fun i x hx => ?_, fun i => by simp [World.frozen?, hh]⟩
    rw [cell_of_row w g i _ _ _ hh]
    rw [← hk, List.getElem?_take] at hx
    split at hx
    · rw [← Array.getElem?_toList]; exact hx
    · cases hx
theorem ints_get {k : IntKind} {xs : List Int} {i : Nat} (h : i < xs.length) : (ints k xs)[i]? = some (.int k (xs.getD i 0)) := by
  simp [ints, List.getElem?_map, List.getElem?_eq_getElem h, List.getD_eq_getElem?_getD]

def vl (S : St) (l : Int) : Int := if S.ids.contains (lv l) = true then (if l < 0 then -(S.value.getD (S.ids.idxOf (lv l)) 0) else S.value.getD (S.ids.idxOf (lv l)) 0) else 0

theorem look_at {w : World} {m n : Nat} {D : DataW Unit} (h : w.ownsMap Try.prog 3 (plainElem Try.prog 3) m n D) (v : Int) (hv : 0 ≤ v) (hv1 : v ≤ 1048576) (q : Nat) :
    ∃ c : Int, (Instr.lookup 88 (.map (some m)) (.int .i64 v) true).run Try.prog (w.drewN q) = .ok (.tuple #[.int .i64 c, .bool (Maps.has D (.int .i64 v))]) (w.drewN q) ∧ D.atKey (.int .i64 v) (dI 0) = dI c := by
  have hd : (w.drewN q).ownsMap Try.prog 3 (plainElem Try.prog 3) m n D := h
  have hkey := keyOf_int_mk (P := Try.prog) Try.underlying3 (a := v) (WalkArith.wf_i64 (by omega))
  obtain ⟨x, ps, hrun, hx⟩ := hd.look_ok law3 Try.underlying88 (zero3 _) (plainElem_int Try.underlying3 (by decide)) hkey
  obtain ⟨c, rfl, hc, _⟩ := plainElem_int_inv Try.underlying3 hx
  exact ⟨c, hrun, congrArg Prod.fst hc⟩

set_option maxHeartbeats 1000000 in
set_option maxRecDepth 100000 in
theorem value_any {w : World} {B b : Nat} {τ : Nat → Nat} {V : Vals} {S : St} (R : Rep w B b τ V S) (l : Int) (hvl : S.value.length = S.ids.length) (hb1 : ∀ x ∈ S.value, -1 ≤ x ∧ x ≤ 1) (hn : S.ids.length ≤ 2097152) :
    Calls Try.prog 60 #[.pointer (some ⟨b, 0, none⟩), .int .i64 l] w fun e w' => e = .returned (.int .i8 (vl S l)) ∧ ∃ n, w' = w.drewN n := by
  have hb0 := lv_bd l
  obtain ⟨⟨c0, c1, c2, c3, c4, c5, c6, c7, c8, c9⟩, hfr⟩ := cells_at R.blk
  clear c1 c2 c3 c4 c6 c7 c8 c9 hfr
  by_cases hk : S.ids.contains (lv l) = true
  · have hh : Maps.has V.D (.int .i64 (lv l)) = true := (R.ids (lv l)).1.trans hk
    have hat := (R.ids (lv l)).2 hk
    have hix : (S.ids.idxOf (lv l)) < S.ids.length := List.idxOf_lt_length_of_mem (by simpa using hk)
    have hv : vl S l = if l < 0 then -(S.value.getD (S.ids.idxOf (lv l)) 0) else S.value.getD (S.ids.idxOf (lv l)) 0 := by unfold vl; rw [if_pos hk]
    rw [hv]
    obtain ⟨g, c, hvv, _, _, _, hc, hcell, _⟩ := R.rv.form (by rw [ints_len]; omega)
    rw [ints_len, hvl] at hvv hc
    have hx := hcell (S.ids.idxOf (lv l)) _ (ints_get (by omega))
    have hxb : -1 ≤ S.value.getD (S.ids.idxOf (lv l)) 0 ∧ S.value.getD (S.ids.idxOf (lv l)) 0 ≤ 1 := by
      rw [List.getD_eq_getElem?_getD, List.getElem?_eq_getElem (by omega)]
      exact hb1 _ (List.getElem_mem _)
    have hlook : ∀ q, (Instr.lookup 88 (.map (some V.m)) (.int .i64 (lv l)) true).run Try.prog (w.drewN q) = .ok (.tuple #[.int .i64 ((S.ids.idxOf (lv l) : Nat) : Int), .bool true]) (w.drewN q) := by
      intro q
      obtain ⟨c, h1, h2⟩ := look_at R.map (lv l) hb0.1 hb0.2 q
      rw [hat] at h2
      obtain rfl : ((S.ids.idxOf (lv l) : Nat) : Int) = c := by simpa [dI] using h2
      rw [h1, hh]
    rw [hvv] at c5
    generalize S.value.getD (S.ids.idxOf (lv l)) 0 = x at *
    have hix0 : 0 ≤ ((S.ids.idxOf (lv l) : Nat) : Int) := by omega
    have hix1 : ((S.ids.idxOf (lv l) : Nat) : Int) < (S.ids.length : Int) := by omega
    generalize S.ids.idxOf (lv l) = p at *
    clear hv hat hh hvv hcell hb1 hvl R hk
    have hca := fun q => (var_any l (w.drewN q))
    obtain ⟨x1, x2⟩ := hxb
    by_cases hlt : l < 0
    · rw [if_pos hlt]
      go_enter Try.func60, Try.ntmps60
      go_wp2
      go_quiet ((go_at_call 112; exact Calls.quiet_of_same ((hca _).mono fun _ _ h => ⟨h.1, h.2.symm⟩)))
      go_wp2
      go_ret
      exact ⟨rfl, _, rfl⟩
    · rw [if_neg hlt]
      go_enter Try.func60, Try.ntmps60
      go_wp2
      go_quiet ((go_at_call 112; exact Calls.quiet_of_same ((hca _).mono fun _ _ h => ⟨h.1, h.2.symm⟩)))
      go_wp2
      go_ret
      exact ⟨rfl, _, rfl⟩
  · have hkf : S.ids.contains (lv l) = false := by simpa using hk
    have hh : Maps.has V.D (.int .i64 (lv l)) = false := (R.ids (lv l)).1.trans hkf
    have hv : vl S l = 0 := by unfold vl; rw [if_neg hk]
    rw [hv]
    obtain ⟨c, _, h3⟩ := look_at R.map (lv l) hb0.1 hb0.2 0
    have hlook : ∀ q, (Instr.lookup 88 (.map (some V.m)) (.int .i64 (lv l)) true).run Try.prog (w.drewN q) = .ok (.tuple #[.int .i64 c, .bool false]) (w.drewN q) := by
      intro q
      obtain ⟨c', h1, h2⟩ := look_at R.map (lv l) hb0.1 hb0.2 q
      obtain rfl : c = c' := by simpa [dI] using h3.symm.trans h2
      rw [h1, hh]
    clear h3
    have hca := fun q => (var_any l (w.drewN q))
    clear hv hk hkf hh hb1 hvl R
    go_enter Try.func60, Try.ntmps60
    go_wp2
    go_quiet ((go_at_call 112; exact Calls.quiet_of_same ((hca _).mono fun _ _ h => ⟨h.1, h.2.symm⟩)))
    go_wp2
    go_ret
    exact ⟨rfl, _, rfl⟩

end Go.Proofs.Ytfljggodnnpeiaa.Spr
