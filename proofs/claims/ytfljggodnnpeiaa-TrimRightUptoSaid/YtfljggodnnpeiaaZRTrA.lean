/- Part of the proof of TrimRight: what the law uses of the text TrA. -/
import Derived.Test.YtfljggodnnpeiaaZRTrQ
import Derived.Test.YtfljggodnnpeiaaZRBlame
import Derived.Test.YtfljggodnnpeiaaZRJPorts
import Derived.Test.YtfljggodnnpeiaaZRJWNEv
namespace Go.Proofs.Ytfljggodnnpeiaa.Trm
open Go.RowKit Go.Proofs.Ytfljggodnnpeiaa.Lit Go.Proofs.Ytfljggodnnpeiaa.Spr Go.Proofs.YtfljggodnnpeiaaW.PrintWords
set_option linter.unusedVariables false

structure KV where
  va : Value
  vi : Value
  vl : Value
  al : List Value
  ll : List Value
def bls (xs : List Bool) : List Value := xs.map Value.bool
theorem bls_len (xs : List Bool) : (bls xs).length = xs.length := by simp [bls]
theorem bls_get {xs : List Bool} {i : Nat} (h : i < xs.length) : (bls xs)[i]? = some (.bool (xs.getD i false)) := by
  simp [bls, List.getElem?_map, List.getElem?_eq_getElem h, List.getD_eq_getElem?_getD]
def RowsAt (w : World) (ok : Nat → Prop) (vs : List Value) (cs : List (List Int)) : Prop :=
  vs.length = cs.length ∧ ∀ i, i < cs.length → ∃ A c, vs[i]? = some (.slice A (cs.getD i []).length c) ∧ (cs.getD i []).length ≤ c ∧ Kd.F (Kd.int .i64) w ok A (cs.getD i []).length (cs.getD i [])
theorem RowsAt.step {w w1 : World} {ok : Nat → Prop} {vs : List Value} {cs : List (List Int)} (h : RowsAt w ok vs cs) (hm : ∀ k, ok k → k < w.heap.size → w1.heap[k]? = w.heap[k]?) : RowsAt w1 ok vs cs :=
  ⟨h.1, fun i hi => by obtain ⟨A, c, h1, h2, h3⟩ := h.2 i hi; exact ⟨A, c, h1, h2, Kd.F_step h3 hm⟩⟩
theorem ic_of_F {w : World} {ok : Nat → Prop} {A : Option Addr} {xs : List Int} (h : Kd.F (Kd.int .i64) w ok A xs.length xs) : IC w A xs := ic_of_C (Kd.F_now h)

structure KRep (w : World) (B b : Nat) (τ : Nat → Nat) (V : KV) (K : KSt) : Prop where
  blk : w.heap[b]? = some (.cells #[.int .i64 K.given, V.va, V.vi, V.vl] 126 (0, 0))
  hb : B ≤ b
  tb : τ b = 0
  ra : Row w B τ 1 25 V.va V.al
  al : RowsAt w (fun k => k < B) V.al K.all
  ri : Row w B τ 2 4 V.vi (bls K.inn)
  rl : Row w B τ 3 25 V.vl V.ll
  ll : V.ll.length = K.all.length
  li : K.inn.length = K.all.length
  le : K.lean.length = K.all.length
  lr : ∀ (i : Nat) (v : Value) (c : List Int), V.ll[i]? = some v → K.lean[i]? = some c → IRow w B τ 4 3 .i64 v c
  old : ∀ k, k < B → τ k = 1
theorem KRep.lt {w : World} {B b : Nat} {τ : Nat → Nat} {V : KV} {K : KSt} (R : KRep w B b τ V K) : b < w.heap.size := (Array.getElem?_eq_some_iff.1 R.blk).1
theorem KRep.base {w : World} {B b : Nat} {τ : Nat → Nat} {V : KV} {K : KSt} (R : KRep w B b τ V K) : B ≤ w.heap.size := Nat.le_trans R.hb (Nat.le_of_lt R.lt)
theorem KRep.stayT {w w1 : World} {B b : Nat} {τ τ1 : Nat → Nat} {V : KV} {K : KSt} {T : Nat → Prop} (R : KRep w B b τ V K) (hs : Stay w w1 τ τ1 T) (hT : ∀ s, s ≤ 4 → T s) : KRep w1 B b τ1 V K :=
  ⟨(hs.blk b R.lt (by rw [R.tb]; exact hT 0 (by omega))).trans R.blk, R.hb, (hs.tag b R.lt).trans R.tb, R.ra.stay hs (hT 1 (by omega)), R.al.step (fun k hk hlt => hs.blk k hlt (by rw [R.old k hk]; exact hT 1 (by omega))), R.ri.stay hs (hT 2 (by omega)), R.rl.stay hs (hT 3 (by omega)), R.ll, R.li, R.le, fun i v c h1 h2 => (R.lr i v c h1 h2).stay hs (hT 4 (by omega)), fun k hk => (hs.tag k (Nat.lt_of_lt_of_le hk R.base)).trans (R.old k hk)⟩
theorem KRep.stay {w w1 : World} {B b : Nat} {τ τ1 : Nat → Nat} {V : KV} {K : KSt} (R : KRep w B b τ V K) (hs : Stay w w1 τ τ1 (fun _ => True)) : KRep w1 B b τ1 V K := R.stayT hs (fun _ _ => trivial)
theorem stay_below {w w1 : World} (hb : Below w.heap.size w w1) (τ : Nat → Nat) (t : Nat) : Stay w w1 τ (retag τ w.heap.size t) (fun _ => True) := ⟨hb.size, fun _ hk => retag_old hk, fun k hk _ => hb.block k hk⟩
theorem KRep.below {w w1 : World} {B b : Nat} {τ : Nat → Nat} {V : KV} {K : KSt} (R : KRep w B b τ V K) (hb : Below w.heap.size w w1) : KRep w1 B b τ V K :=
  R.stay ⟨hb.size, fun _ _ => rfl, fun k hk _ => hb.block k hk⟩

structure KForm (w : World) (B b : Nat) (τ : Nat → Nat) (V : KV) (K : KSt) (ga ca gi ci gl cl : Nat) : Prop where
  va : V.va = .slice (some ⟨ga, 0, none⟩) K.all.length ca
  vi : V.vi = .slice (some ⟨gi, 0, none⟩) K.all.length ci
  vl : V.vl = .slice (some ⟨gl, 0, none⟩) K.all.length cl
  ta : τ ga = 1
  ti : τ gi = 2
  tl : τ gl = 3
  ba : B ≤ ga
  bi : B ≤ gi
  bl : B ≤ gl
  la : ga < w.heap.size
  li : gi < w.heap.size
  lt : gl < w.heap.size
  c0 : w.cell? ⟨b, 0, none⟩ = some (.int .i64 K.given)
  c1 : w.cell? ⟨b, 1, none⟩ = some (.slice (some ⟨ga, 0, none⟩) K.all.length ca)
  c2 : w.cell? ⟨b, 2, none⟩ = some (.slice (some ⟨gi, 0, none⟩) K.all.length ci)
  c3 : w.cell? ⟨b, 3, none⟩ = some (.slice (some ⟨gl, 0, none⟩) K.all.length cl)
  fb : ∀ i, w.frozen? ⟨b, i, none⟩ = false
  xi : ∀ n, n < K.all.length → w.cell? ⟨gi, n, none⟩ = some (.bool (K.inn.getD n false))
  fi : ∀ i, w.frozen? ⟨gi, i, none⟩ = false
  xa : ∀ n, n < K.all.length → ∃ A c, V.al[n]? = some (.slice A (K.all.getD n []).length c) ∧ w.cell? ⟨ga, n, none⟩ = some (.slice A (K.all.getD n []).length c) ∧ Kd.F (Kd.int .i64) w (fun k => k < B) A (K.all.getD n []).length (K.all.getD n [])
  xl : ∀ n, n < K.all.length → ∃ A c, V.ll[n]? = some (.slice A (K.lean.getD n []).length c) ∧ w.cell? ⟨gl, n, none⟩ = some (.slice A (K.lean.getD n []).length c) ∧ IC w A (K.lean.getD n [])
  fl : ∀ i, w.frozen? ⟨gl, i, none⟩ = false
  nab : ga ≠ b
  nib : gi ≠ b
  nlb : gl ≠ b
  nai : ga ≠ gi
  nal : ga ≠ gl
  nil : gi ≠ gl
theorem KRep.form {w : World} {B b : Nat} {τ : Nat → Nat} {V : KV} {K : KSt} (R : KRep w B b τ V K) (h0 : 0 < K.all.length) : ∃ ga ca gi ci gl cl, KForm w B b τ V K ga ca gi ci gl cl := by
  obtain ⟨ga, ca, a1, a2, a3, a4, _, a6, a7⟩ := R.ra.form (by rw [R.al.1]; exact h0)
  obtain ⟨gi, ci, i1, i2, i3, i4, _, i6, i7⟩ := R.ri.form (by rw [bls_len, R.li]; exact h0)
  obtain ⟨gl, cl, l1, l2, l3, l4, _, l6, l7⟩ := R.rl.form (by rw [R.ll]; exact h0)
  rw [R.al.1] at a1
  rw [bls_len, R.li] at i1
  rw [R.ll] at l1
  have g := fun i => cell_of_row w b i _ _ _ R.blk
  refine ⟨ga, ca, gi, ci, gl, cl, a1, i1, l1, a3, i3, l3, a2, i2, l2, a4, i4, l4, g 0, ?_, ?_, ?_, fun i => by simp [World.frozen?, R.blk], fun n hn => i6 n _ (bls_get (by rw [R.li]; exact hn)), i7, fun n hn => ?_, fun n hn => ?_, l7, ?_, ?_, ?_, ?_, ?_, ?_⟩
  · rw [← a1]; exact g 1
  · rw [← i1]; exact g 2
  · rw [← l1]; exact g 3
  · obtain ⟨A, c, h1, _, h2⟩ := R.al.2 n hn
    exact ⟨A, c, h1, a6 n _ h1, h2⟩
  · have hnl : n < V.ll.length := by rw [R.ll]; exact hn
    have e1 : V.ll[n]? = some V.ll[n] := List.getElem?_eq_getElem hnl
    have e2 : K.lean[n]? = some (K.lean.getD n []) := by rw [List.getD_eq_getElem?_getD, List.getElem?_eq_getElem (by rw [R.le]; exact hn)]; rfl
    obtain ⟨A, c, hv, hi⟩ := own_IC (R.lr n _ _ e1 e2).own
    rw [hv] at e1
    exact ⟨A, c, e1, l6 n _ e1, hi⟩
  · intro e; have := R.tb; rw [← e, a3] at this; omega
  · intro e; have := R.tb; rw [← e, i3] at this; omega
  · intro e; have := R.tb; rw [← e, l3] at this; omega
  · intro e; rw [e, i3] at a3; omega
  · intro e; rw [e, l3] at a3; omega
  · intro e; rw [e, l3] at i3; omega

def keptV (al : List Value) (inn : List Bool) (k : Nat) : List Value := (keptN inn k).map fun n => al.getD n.toNat (.slice none 0 0)
theorem keptV_succ (al : List Value) (inn : List Bool) (k : Nat) : keptV al inn (k + 1) = if inn.getD k false = true then keptV al inn k ++ [al.getD k (.slice none 0 0)] else keptV al inn k := by
  unfold keptV
  rw [keptN_succ]
  split
  · rw [List.map_append, List.map_singleton, Int.toNat_natCast]
  · rfl
theorem keptV_len (al : List Value) (inn : List Bool) (k : Nat) : (keptV al inn k).length = (keptN inn k).length := by unfold keptV; rw [List.length_map]
theorem kept_rc {w : World} {B b : Nat} {τ : Nat → Nat} {V : KV} {K : KSt} (R : KRep w B b τ V K) {k : Nat} (hk : k ≤ K.all.length) {w1 : World} (hb : Below w.heap.size w w1) {B1 : Nat} {A : Option Addr} {c : Nat} (ho : w1.ownsRow B1 25 1 (.slice A (keptV V.al K.inn k).length c) (keptV V.al K.inn k).length (keptV V.al K.inn k)) : RC w1 A (keptC K.all K.inn k) := by
  intro i hi
  rw [keptC_len] at hi
  have hr : Row w1 B1 (fun _ => 0) 0 25 (.slice A (keptV V.al K.inn k).length c) (keptV V.al K.inn k) := ⟨ho, fun _ _ => rfl⟩
  obtain ⟨g, c', h1, _, _, _, _, hcell, _⟩ := hr.form (by rw [keptV_len]; omega)
  injection h1 with hA
  have hm : (keptN K.inn k).getD i 0 ∈ keptN K.inn k := getD_mem' hi
  have hlt := (mem_keptN.1 hm).2.1
  obtain ⟨A1, c1, hv, _, hf⟩ := R.al.2 _ (Nat.lt_of_lt_of_le hlt hk)
  refine ⟨⟨g, 0, none⟩, A1, c1, hA, ?_, ?_⟩
  · rw [show (⟨g, 0, none⟩ : Addr).add i = ⟨g, i, none⟩ by unfold Addr.add; split <;> simp_all]
    refine hcell i _ ?_
    rw [keptC_getD K.all K.inn k i hi]
    have e : (keptV V.al K.inn k)[i]? = some (V.al.getD ((keptN K.inn k).getD i 0).toNat (.slice none 0 0)) := by
      unfold keptV
      rw [List.getElem?_map, List.getD_eq_getElem?_getD (l := keptN K.inn k), List.getElem?_eq_getElem hi]; rfl
    rw [e, List.getD_eq_getElem?_getD, hv]; rfl
  · rw [keptC_getD K.all K.inn k i hi]
    exact (ic_of_F hf).below hb

end Go.Proofs.Ytfljggodnnpeiaa.Trm
