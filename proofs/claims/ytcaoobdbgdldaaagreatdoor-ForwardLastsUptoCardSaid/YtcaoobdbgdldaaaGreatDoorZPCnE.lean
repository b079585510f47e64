/- Part of the proof of ForwardLasts: what the law uses of the text CnE. -/
import Derived.Test.YtcaoobdbgdldaaaGreatDoorZPCnD
import Derived.Test.YtcaoobdbgdldaaaGreatDoorZPCnA
namespace Go.Proofs.YtcaoobdbgdldaaaGreatDoor.Cn
open Go.RowKit Go.Proofs.YtcaoobdbgdldaaaGreatDoor.Lit Go.Proofs.YtcaoobdbgdldaaaGreatDoor.Spr Go.Proofs.YtcaoobdbgdldaaaGreatDoorW.PrintWords
set_option linter.unusedVariables false
set_option linter.unusedSimpArgs false

structure KpB (L bn : Nat) (W W' : World) : Prop where
  size : W.heap.size ≤ W'.heap.size
  low : ∀ k, k < L → k ≠ bn → W'.heap[k]? = W.heap[k]?
  high : ∀ (k : Nat) (o : Obj), L ≤ k → W.heap[k]? = some o → o.isCells = true → W'.heap[k]? = some o
theorem KpB.trans {L bn : Nat} {X Y Z : World} (h : KpB L bn X Y) (k : KpB L bn Y Z) : KpB L bn X Z := ⟨Nat.le_trans h.size k.size, fun i hi hn => (k.low i hi hn).trans (h.low i hi hn), fun i o hi ho hc => k.high i o hi (h.high i o hi ho hc) hc⟩
theorem KpB.put {L bn : Nat} (W : World) (l : Nat) (o o' : Obj) (hl : L ≤ l) (h : W.heap[l]? = some o) (hc : o.isCells = false) : KpB L bn W (W.putObj l o') :=
  ⟨by simp, fun k hk _ => World.putObj_heap_other (by omega), fun k p hk hp hpc => by
    rw [World.putObj_heap_other (fun e => by rw [e, h] at hp; injection hp with hp; rw [← hp, hc] at hpc; cases hpc)]; exact hp⟩
theorem KpB.setOne {L bn : Nat} (W : World) (i : Nat) (u : Value) (hb : bn < L) : KpB L bn W (W.setCell ⟨bn, i, none⟩ u) :=
  ⟨by simp, fun k hk hn => Below.heap_setCell W ⟨bn, i, none⟩ u k hn, fun k o hk ho _ => by rw [Below.heap_setCell W ⟨bn, i, none⟩ u k (by show k ≠ bn; omega)]; exact ho⟩
structure It (L bn gb vars : Nat) (A : Option Addr) (c0 : Nat) (cs : List (List Int)) (X : World) : Prop where
  g : X.heap[gb]? = some (Obj.cells #[.int .i64 vars, .slice A cs.length c0] 24 (0, 0))
  cl : Kd.F kL X (fun k => k < L ∧ k ≠ bn) A cs.length cs
  sz : L ≤ X.heap.size
  gl : gb < L
  gn : gb ≠ bn
section
variable {L bn gb vars : Nat} {A : Option Addr} {c0 : Nat} {cs : List (List Int)} {X Y : World}
theorem It.below (h : It L bn gb vars A c0 cs X) (hb : Below L X Y) : It L bn gb vars A c0 cs Y :=
  ⟨by rw [hb.block gb h.gl]; exact h.g, Kd.F_step h.cl (fun k hk _ => hb.block k hk.1), Nat.le_trans h.sz hb.size, h.gl, h.gn⟩
theorem It.kp (h : It L bn gb vars A c0 cs X) (hk : KpB L bn X Y) : It L bn gb vars A c0 cs Y :=
  ⟨by rw [hk.low gb h.gl h.gn]; exact h.g, Kd.F_step h.cl (fun k hk2 _ => hk.low k hk2.1 hk2.2), Nat.le_trans h.sz hk.size, h.gl, h.gn⟩
theorem It.cell (h : It L bn gb vars A c0 cs X) : X.cell? ⟨gb, 0, none⟩ = some (.int .i64 vars) ∧ X.cell? ⟨gb, 1, none⟩ = some (.slice A cs.length c0) := by
  constructor <;> (unfold World.cell?; rw [h.g]; rfl)
end
theorem ArrM.kp {L bn g : Nat} {l : List Bool} {X Y : World} (h : ArrM g l X) (hg : L ≤ g) (hk : KpB L bn X Y) : ArrM g l Y := hk.high g _ hg h rfl
theorem ArrM.below {g B : Nat} {l : List Bool} {X Y : World} (h : ArrM g l X) (hg : g < B) (hb : Below B X Y) : ArrM g l Y := by
  unfold ArrM
  rw [hb.block g hg]; exact h
theorem ArrM.C {g : Nat} {mb pad : List Bool} {X : World} (h : ArrM g (mb ++ pad) X) (hl : mb.length ≤ 16) : Kd.C Kd.bool X (some ⟨g, 0, none⟩) mb.length mb := by
  refine Kd.C_of_reads (enc := Value.bool) (d := false) (h1 := fun _ => rfl) ⟨rfl, by omega, fun h0 => ⟨_, rfl, fun j hj => ?_⟩⟩
  have := (h.cell (k := j) (b := mb.getD j false) (by rw [List.getElem?_append_left hj, List.getD_eq_getElem?_getD, List.getElem?_eq_getElem hj]; rfl)).1
  have e : (⟨g, 0, none⟩ : Addr).add j = ⟨g, j, none⟩ := by unfold Addr.add; split <;> simp_all
  rw [e]; exact this

def padL (n : Nat) : List Bool := List.replicate (16 - n) false
def mods (cs : List (List Int)) (n : Nat) : List (List Bool) := (allM n).filter (sat cs)
def RelI (cs : List (List Int)) (vars L bn gb bm : Nat) (A : Option Addr) (c0 : Nat) (J : List Value → World → Prop) (b : Bool) (X : World) : Prop :=
  It L bn gb vars A c0 cs X ∧ ((b = true ∧ ∃ dn mb rest pre, allM vars = dn ++ mb :: rest ∧ ArrM bm (mb ++ padL vars) X ∧ pre.length = (dn.filter (sat cs)).length ∧ J pre X) ∨ (b = false ∧ ∃ pre, pre.length = (mods cs vars).length ∧ J pre X))
def valV : List Value → Nat
  | [] => 0
  | .bool b :: t => (if b then 1 else 0) + 2 * valV t
  | _ :: t => 2 * valV t
theorem valV_map : ∀ (l : List Bool), valV (l.map Value.bool) = val l
  | [] => rfl
  | b :: t => by
    show (if b then 1 else 0) + 2 * valV (t.map Value.bool) = _
    rw [valV_map t]; rfl
def valO : Option Obj → Nat
  | some (.cells cs _ _) => valV cs.toList
  | _ => 0
theorem ArrM.val {g : Nat} {l : List Bool} {X : World} (h : ArrM g l X) : valO X.heap[g]? = Cn.val l := by
  unfold ArrM at h
  rw [h]
  show valV (l.map Value.bool) = _
  exact valV_map l
theorem val_pad : ∀ (m : List Bool) (n : Nat), val (m ++ List.replicate n false) = val m
  | [], 0 => rfl
  | [], n + 1 => by
    have := val_pad [] n
    rw [List.nil_append] at this ⊢
    rw [List.replicate_succ]
    show 0 + 2 * val (List.replicate n false) = 0
    rw [this]; rfl
  | b :: t, n => by
    show (if b then 1 else 0) + 2 * val (t ++ List.replicate n false) = _
    rw [val_pad t n]; rfl
def meas (bm : Nat) (more : Value) (X : World) : Nat := match more with | .bool true => 65537 - valO X.heap[bm]? | _ => 0

theorem rel_next {cs : List (List Int)} {vars L bn gb bm B : Nat} {A : Option Addr} {c0 : Nat} {J : List Value → World → Prop} {dn rest : List (List Bool)} {mb : List Bool} {pre : List Value} {X Y : World} {e : Ending} (hv : vars ≤ 16)
    (hall : allM vars = dn ++ mb :: rest) (hit : It L bn gb vars A c0 cs X) (hJ : J pre X) (hlen : pre.length = ((dn ++ [mb]).filter (sat cs)).length)
    (hJb : ∀ s A B', J s A → Below B A B' → J s B') (hB : B ≤ bm) (hL : L ≤ B) (hbx : bm < X.heap.size) (hp : NextPost X bm mb (padL vars) e Y) :
    ∃ b, e = .returned (.bool b) ∧ RelI cs vars L bn gb bm A c0 J b Y ∧ meas bm (.bool b) Y < 65537 - val mb ∧ (b = true → meas bm (.bool b) Y < 65537 - val mb) := by
  obtain ⟨hg, hp⟩ := hp
  have hbl : Below B X Y := (Below.refl B X).grown hg (by omega) (fun k hk => by injection hk with hk; omega)
  have hit2 := hit.below (hbl.mono hL)
  have hJ2 := hJb _ _ _ hJ hbl
  have hmem : mb ∈ allM vars := by rw [hall]; exact List.mem_append_right _ (List.mem_cons_self ..)
  have hml : mb.length = vars := (all_len vars mb).1 hmem
  have hnx : nextL mb = rest.head? := linked_at dn mb rest (hall ▸ linked_all vars)
  have hvl := val_lt mb
  have h16 : 2 ^ mb.length ≤ 2 ^ 16 := Nat.pow_le_pow_right (by decide) (by omega)
  rcases hp with ⟨m', h1, rfl, h2⟩ | ⟨h1, rfl, h2⟩
  · rw [hnx] at h1
    cases rest with
    | nil => cases h1
    | cons r rest =>
      obtain rfl : r = m' := by simpa using h1
      have hvn := val_next (hnx.trans h1)
      have hval : valO Y.heap[bm]? = val mb + 1 := by rw [h2.val]; unfold padL; rw [val_pad, hvn]
      refine ⟨true, rfl, ⟨hit2, .inl ⟨rfl, dn ++ [mb], r, rest, pre, by rw [hall]; simp, h2, hlen, hJ2⟩⟩, ?_, fun _ => ?_⟩
      · show 65537 - valO Y.heap[bm]? < 65537 - val mb
        rw [hval]
        have : val mb < 65536 := by have : (2 : Nat) ^ 16 = 65536 := by decide
                                    omega
        omega
      · show 65537 - valO Y.heap[bm]? < 65537 - val mb
        rw [hval]
        have : val mb < 65536 := by have : (2 : Nat) ^ 16 = 65536 := by decide
                                    omega
        omega
  · have hr : rest = [] := by
      rw [hnx] at h1
      cases rest with
      | nil => rfl
      | cons r rest => cases h1
    subst hr
    refine ⟨false, rfl, ⟨hit2, .inr ⟨rfl, pre, by unfold mods; rw [hall]; exact hlen, hJ2⟩⟩, ?_, fun h => by cases h⟩
    show 0 < 65537 - val mb
    have : (2 : Nat) ^ 16 = 65536 := by decide
    omega

end Go.Proofs.YtcaoobdbgdldaaaGreatDoor.Cn
