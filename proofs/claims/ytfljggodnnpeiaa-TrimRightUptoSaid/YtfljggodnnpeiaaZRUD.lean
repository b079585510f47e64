/- Part of the proof of TrimRight: what the law uses of the text UD. -/
import Derived.Test.YtfljggodnnpeiaaZRUB
import Derived.Test.YtfljggodnnpeiaaZRUC
import Derived.Deep.RegionLaw
import Derived.Deep.DeepCutAuto
import Derived.Deep.CutBlock
namespace Go.Proofs.Ytfljggodnnpeiaa.Spr
open Go.RowKit Go.Maps Go.Proofs.Ytfljggodnnpeiaa.Lit
set_option linter.unusedVariables false

theorem step_append_own {P : Program} {ops : Array Oper} {o : Oper} {a : Act} {w : World} {K : Act → World → Prop} {Q : Exit → Act → World → Prop} {E : Prop}
    (hg : o.guard = none) (s x : Operand) (t : TypeId) (hop : o.op = Op.call { callee := Callee.builtin Builtin.append, args := #[s, x], argTypes := #[t, t] })
    (base : Nat) (e : TypeId) (i : TypeInfo) (z : Value) (size bytes : Nat) (ht : P.underlying t = some (.slice e)) (hi : P.info? e = some i) (hz : i.zero = some z)
    (hsize : i.size = size) (hby : i.bytes = bytes) (hzs : z.cells.size = size) (hsz : 0 < size)
    (v : Value) (n : Nat) (xs : List Value) (hs : a.eval s = v) (hown : w.ownsRow base e size v n xs)
    (ad : Addr) (m c : Nat) (news : List Value) (hx : a.eval x = .slice (some ad) m c) (hl : news.length = m * size) (hnews : ∀ j u, news[j]? = some u → w.cell? (ad.add j) = some u) (h1 : ∀ u ∈ news, u.oneCell' = true)
    (h63 : n + m ≤ maxLen) (hbytes : (n + m) * bytes ≤ 140737488355328) (hbase : base ≤ w.heap.size)
    (h : ∀ v' w', w'.ownsRow base e size v' (n + m) (xs ++ news) → w.grownBy w' v.ownBlock → (v' = .slice none 0 0 ↔ v = .slice none 0 0 ∧ m = 0) → (v'.ownBlock = v.ownBlock ∨ v'.ownBlock = some w.heap.size) → K (a.put o.dst v') w') :
    if Region.wanted o (yielded ops a.tmps) = true then Oper.wp P o a w K Q else E := by
  have hw : Region.wanted o (yielded ops a.tmps) = true := by simp [Region.wanted, hg]
  rw [if_pos hw]
  obtain ⟨v', w', hr, h2, h3, h4, h5⟩ := run_append_own_at (P := P) w base t o.type e i z size bytes ht hi hz hsize hby hzs hsz v n xs hown ad m c news hl hnews h1 h63 hbytes hbase
  unfold Oper.wp execOp
  simp only [hop, resolve, invoke, builtin, Sem.run_bind, Sem.run_pure, Result.andThen_ok, List.map_toArray, List.map_cons, List.map_nil, hs, hx, hr]
  exact h v' w' h2 h3 h4 h5

theorem own_putV {w : World} {B : Nat} {e : TypeId} {v : Value} {xs : List Value} {g n c : Nat} (h : w.ownsRow B e 1 (.slice (some ⟨g, 0, none⟩) n c) xs.length xs) (hv : v = .slice (some ⟨g, 0, none⟩) n c) (i : Nat) (x : Value) :
    (w.setCell ⟨g, i, none⟩ x).ownsRow B e 1 v (xs.set i x).length (xs.set i x) := by
  subst hv
  obtain ⟨h1, h2⟩ := h
  have hl : (xs.set i x).length = xs.length := by simp
  refine ⟨by omega, ?_⟩
  rcases h2 with ⟨h2, h3⟩ | ⟨g', cap, cur, hv, hg, hh, hc, hm, hcs, ht⟩
  · cases h2
  · simp only [Value.slice.injEq, Option.some.injEq, Addr.mk.injEq] at hv
    obtain ⟨⟨rfl, _⟩, hn, rfl⟩ := hv
    refine .inr ⟨g, c, cur.setIfInBounds i x, by rw [hl, hn], hg, row_setCell _ _ _ _ _ _ hh, by rw [hl]; exact hc, hm, by simpa using hcs, ?_⟩
    rw [Array.toList_setIfInBounds, List.length_set, List.take_set, ht]

theorem Rep.push_cl {w w2 : World} {B b : Nat} {τ τ2 : Nat → Nat} {V : Vals} {S : St} {v' u : Value} {C : List Int} (R : Rep w B b τ V S) (hs0 : Stay w w2 τ τ2 (fun s => s ≠ 2)) (hr : Row w2 B τ2 2 25 v' (V.cl ++ [u])) (hu : IRow w B τ (10 + 2 * S.clauses.length) 3 .i64 u C) :
    Rep (w2.setCell ⟨b, 1, none⟩ v') B b τ2 { V with vc := v', cl := V.cl ++ [u] } { S with clauses := S.clauses ++ [C] } := by
  have hb2 : w2.heap[b]? = some (.cells (cellsOf V S) 134 (0, 0)) := (hs0.blk b R.lt (by rw [R.tb]; omega)).trans R.blk
  have hs : Stay w (w2.setCell ⟨b, 1, none⟩ v') τ τ2 (fun s => s ≠ 2 ∧ s ≠ 0) := (hs0.weaken (fun s h => h.1)).setCell _ _ (fun _ h => h.2 R.tb)
  have hr' : Row (w2.setCell ⟨b, 1, none⟩ v') B τ2 2 25 v' (V.cl ++ [u]) := hr.stay ((Stay.refl w2 τ2 (fun s => s ≠ 0)).setCell _ _ (fun _ h => h ((hs0.tag b R.lt).trans R.tb))) (by omega)
  refine ⟨(row_setCell _ _ _ _ _ _ hb2).trans rfl, R.hb, (hs.tag b R.lt).trans R.tb, map_stay R.map hs (by rw [R.tm]; omega), R.hm, (hs.tag _ R.map.lt).trans R.tm, R.ids, hr', by simp [R.lc], ?_, R.rin.stay hs (by omega), R.lin, fun i v c h1 h2 => (R.inn i v c h1 h2).stay hs (by omega), R.ro.stay hs (by omega), R.ron.stay hs (by omega), R.rv.stay hs (by omega), R.rw.stay hs (by omega), R.rt.stay hs (by omega), R.rx.stay hs (by omega)⟩
  intro i v c h1 h2
  have hl := R.lc
  by_cases hi : i < V.cl.length
  · simp only [List.getElem?_append_left hi] at h1
    simp only [List.getElem?_append_left (hl ▸ hi)] at h2
    exact (R.cl i v c h1 h2).stay hs (by omega)
  · simp only [List.getElem?_append_right (Nat.le_of_not_lt hi)] at h1
    simp only [List.getElem?_append_right (Nat.le_of_not_lt (hl ▸ hi))] at h2
    have hi0 : i = S.clauses.length := by
      have := (List.getElem?_eq_some_iff.1 h2).1
      simp at this
      omega
    subst hi0
    rw [hl] at h1
    simp at h1 h2
    subst h1 h2
    exact hu.stay hs (by omega)

theorem Rep.set_in {w w2 : World} {B b : Nat} {τ τ2 : Nat → Nat} {V : Vals} {S : St} {v' : Value} {xs : List Int} (R : Rep w B b τ V S) (p : Nat) (hs0 : Stay w w2 τ τ2 (fun s => s ≠ 11 + 2 * p)) (hr : IRow w2 B τ2 (11 + 2 * p) 3 .i64 v' xs) {g n c : Nat} (hv : V.vin = .slice (some ⟨g, 0, none⟩) n c) :
    Rep (w2.setCell ⟨g, p, none⟩ v') B b τ2 { V with inn := V.inn.set p v' } { S with inn := S.inn.set p xs } := by
  have hgt : τ g = 3 := R.rin.tag g (by rw [hv]; simp [Value.ownBlock])
  have hgl : g < w.heap.size := own_lt R.rin.own g (by rw [hv]; simp [Value.ownBlock])
  have hs : Stay w (w2.setCell ⟨g, p, none⟩ v') τ τ2 (fun s => s ≠ 11 + 2 * p ∧ s ≠ 3) := (hs0.weaken (fun s h => h.1)).setCell _ _ (fun _ h => h.2 hgt)
  have hs2 : Stay w2 (w2.setCell ⟨g, p, none⟩ v') τ2 τ2 (fun s => s ≠ 3) := (Stay.refl w2 τ2 _).setCell _ _ (fun _ h => h ((hs0.tag g hgl).trans hgt))
  have hr0 : Row w2 B τ2 3 25 V.vin V.inn := R.rin.stay hs0 (by omega)
  have hr' : Row (w2.setCell ⟨g, p, none⟩ v') B τ2 3 25 V.vin (V.inn.set p v') := ⟨own_putV (hv ▸ hr0.own) hv p v', hr0.tag⟩
  refine ⟨(hs.blk b R.lt (by rw [R.tb]; omega)).trans R.blk, R.hb, (hs.tag b R.lt).trans R.tb, map_stay R.map hs (by rw [R.tm]; omega), R.hm, (hs.tag _ R.map.lt).trans R.tm, R.ids, R.rc.stay hs (by omega), R.lc, fun i v c h1 h2 => (R.cl i v c h1 h2).stay hs (by omega), hr', by simp [R.lin], ?_, R.ro.stay hs (by omega), R.ron.stay hs (by omega), R.rv.stay hs (by omega), R.rw.stay hs (by omega), R.rt.stay hs (by omega), R.rx.stay hs (by omega)⟩
  intro i v c h1 h2
  by_cases hi : i = p
  · subst hi
    rw [List.getElem?_set] at h1 h2
    simp only [if_true] at h1 h2
    split at h1
    · split at h2
      · simp at h1 h2
        subst h1 h2
        exact hr.stay hs2 (by omega)
      · cases h2
    · cases h1
  · rw [List.getElem?_set_ne (by omega)] at h1 h2
    exact (R.inn i v c h1 h2).stay hs (by omega)

def addLit (n : Nat) (S : St) (l : Int) : St :=
  { placeSt S l with inn := (placeSt S l).inn.set (pix (placeSt S l).ids l).toNat ((placeSt S l).inn.getD (pix (placeSt S l).ids l).toNat [] ++ [(n : Int)]) }
def addClause (S : St) (C : List Int) : St := { S with clauses := S.clauses ++ [C], opn := S.opn ++ [(C.length : Int)], on := S.on ++ [0] }
def addSt (S : St) (C : List Int) : St := C.foldl (addLit S.clauses.length) (addClause S C)

end Go.Proofs.Ytfljggodnnpeiaa.Spr

namespace Go.Proofs.Ytfljggodnnpeiaa.Spr
open Go.RowKit Go.Maps Go.Proofs.Ytfljggodnnpeiaa.Lit
set_option linter.unusedVariables false

theorem Ok.addClause {S : St} (h : Ok S) (C : List Int) : Ok (addClause S C) :=
  ⟨h.nd, h.rg, h.lnv, h.lw, h.li, h.bv, h.tr, by simp [Spr.addClause, h.lo], by simp [Spr.addClause, h.ln]⟩
theorem Ok.addLit {S : St} (h : Ok S) (n : Nat) (l : Int) : Ok (addLit n S l) := by
  have h1 := h.place l
  exact ⟨h1.nd, h1.rg, h1.lnv, h1.lw, by simp [Spr.addLit, h1.li], h1.bv, h1.tr, h1.lo, h1.ln⟩
theorem addLit_clauses (n : Nat) (S : St) (l : Int) : (addLit n S l).clauses = S.clauses := (placeSt_fields S l).1
theorem addLit_len (n : Nat) (S : St) (l : Int) (M : Nat) (h : ∀ c ∈ S.inn, c.length ≤ M) : ∀ c ∈ (addLit n S l).inn, c.length ≤ M + 1 := by
  have h1 : ∀ c ∈ (placeSt S l).inn, c.length ≤ M := fun c hc => by
    rcases (placeSt_fields S l).2.2.2.2.2.2.2 c hc with hc | rfl
    · exact h c hc
    · simp
  intro c hc
  rcases List.mem_or_eq_of_mem_set hc with hc | rfl
  · have := h1 c hc; omega
  · rw [List.length_append]
    have : ((placeSt S l).inn.getD (pix (placeSt S l).ids l).toNat []).length ≤ M := by
      rw [List.getD_eq_getElem?_getD]
      cases hx : (placeSt S l).inn[(pix (placeSt S l).ids l).toNat]? with
      | none => simp
      | some c => exact h1 c (List.mem_of_getElem? hx)
    simpa using this
theorem fold_len (n : Nat) (M : Nat) : ∀ (C : List Int) (T : St) (k : Nat), (∀ c ∈ T.inn, c.length ≤ M + k) → ∀ c ∈ (C.foldl (addLit n) T).inn, c.length ≤ M + k + C.length
  | [], T, k, h => by simpa using h
  | x :: t, T, k, h => by
    have := fold_len n M t (addLit n T x) (k + 1) (addLit_len n T x (M + k) h)
    intro c hc
    have := this c hc
    simp only [List.length_cons]
    omega
theorem tidy_le (xs : List Int) : (tidyL xs).length ≤ 2097152 := by
  have h1 := tidy_rising xs
  have h2 : ((tidyL xs).map ix).Nodup := by
    unfold List.Nodup
    rw [List.pairwise_map]
    exact h1.imp (fun h => by omega)
  have := nodup_le 2097152 _ h2 (by
    intro v hv
    obtain ⟨x, hx, rfl⟩ := List.mem_map.1 hv
    have := ix_ge ((mem_tidy xs x).1 hx).2
    have := (ix_bd x).2
    omega)
  simpa using this

theorem own_lower {w : World} {B B' : Nat} {e : TypeId} {n : Nat} {v : Value} {xs : List Value} (h : w.ownsRow B e 1 v n xs) (hb : B' ≤ B) : w.ownsRow B' e 1 v n xs := by
  obtain ⟨h1, h2⟩ := h
  refine ⟨h1, ?_⟩
  rcases h2 with h2 | ⟨g, cap, cur, hv, hg, hh, r⟩
  · exact .inl h2
  · exact .inr ⟨g, cap, cur, hv, Nat.le_trans hb hg, hh, r⟩

theorem cell_alloc_old {w : World} {p : Addr} {u : Value} (h : w.cell? p = some u) (o : Obj) : (w.alloc o).cell? p = some u :=
  (((Below.refl w.heap.size w).alloc (Nat.le_refl _) o).cell (World.block_lt_of_cell? w p h)).trans h
theorem own_alloc_drew {w : World} {B : Nat} {e : TypeId} {size n : Nat} {v : Value} {xs : List Value} (h : w.ownsRow B e size v n xs) (o : Obj) : (w.alloc o).drew.ownsRow B e size v n xs := (h.alloc o).drew
theorem grown_drew {w w1 : World} {r : Option Nat} (h : w.drew.grownBy w1 r) : w.grownBy w1 r := ⟨h.os, h.tape, h.output, h.size, h.block⟩
theorem cell_alloc_drew {w : World} (x : Value) (t : TypeId) : ∀ j u, [x][j]? = some u → (w.alloc (.cells #[x] t)).drew.cell? ((⟨w.heap.size, 0, none⟩ : Addr).add j) = some u := cell_one_new w x t

theorem Rep.tidied {w w1 : World} {B b : Nat} {τ : Nat → Nat} {V : Vals} {S : St} (R : Rep w B b τ V S) {C : List Int} {v : Value} (ho : w1.ownsRow w.heap.size 3 1 v (ints .i64 C).length (ints .i64 C)) (hb : Below w.heap.size w w1) (t : Nat) :
    Rep w1 B b (retag τ w.heap.size t) V S ∧ IRow w1 B (retag τ w.heap.size t) t 3 .i64 v C ∧ Below B w w1 :=
  ⟨R.stay ⟨hb.size, fun k hk => retag_old hk, fun k hk _ => hb.block k hk⟩, ⟨own_lower ho R.base, fun k hk => retag_new (own_base ho k hk)⟩, hb.mono R.base⟩

theorem Rep.inat2 {w : World} {B b : Nat} {τ : Nat → Nat} {V : Vals} {S : St} (R : Rep w B b τ V S) (p : Nat) (hp : p < S.inn.length) :
    ∃ g c AA ca, V.vin = .slice (some ⟨g, 0, none⟩) S.inn.length c ∧ B ≤ g ∧ w.cell? ⟨b, 2, none⟩ = some (.slice (some ⟨g, 0, none⟩) S.inn.length c) ∧ w.cell? ⟨g, p, none⟩ = some (.slice AA (S.inn.getD p []).length ca) ∧ IRow w B τ (11 + 2 * p) 3 .i64 (.slice AA (S.inn.getD p []).length ca) (S.inn.getD p []) ∧ g ≠ b ∧ b ≠ g ∧
      ∀ w2 τ2, Stay w w2 τ τ2 (fun s => s ≠ 11 + 2 * p) → w2.cell? ⟨g, p, none⟩ = some (.slice AA (S.inn.getD p []).length ca) ∧ w2.frozen? ⟨g, p, none⟩ = false ∧ w2.cell? ⟨b, 2, none⟩ = some (.slice (some ⟨g, 0, none⟩) S.inn.length c) := by
  have hl := R.lin
  obtain ⟨g, c, h1, hB, htg, hlt, _, hcell, hfr⟩ := R.rin.form (by omega)
  obtain ⟨⟨d0, d1, d2, d3, d4, d5, d6, d7, d8, d9⟩, hfb⟩ := cells_at R.blk
  rw [hl] at h1
  rw [h1] at d2
  have e1 : V.inn[p]? = some V.inn[p] := List.getElem?_eq_getElem (by omega)
  have e2 : S.inn[p]? = some (S.inn.getD p []) := by rw [List.getD_eq_getElem?_getD, List.getElem?_eq_getElem hp]; rfl
  have hr := R.inn p _ _ e1 e2
  obtain ⟨A, ca, hv⟩ := own_slice hr.own
  rw [ints_len] at hv
  have hx := hcell p _ e1
  rw [hv] at hx hr
  have n1 : g ≠ b := fun e => by have := R.tb; rw [← e, htg] at this; omega
  refine ⟨g, c, A, ca, h1, hB, d2, hx, hr, n1, n1.symm, fun w2 τ2 hs => ?_⟩
  have hh := hs.blk g hlt (by rw [htg]; omega)
  have hh2 := hs.blk b R.lt (by rw [R.tb]; omega)
  refine ⟨?_, ?_, ?_⟩
  · rw [← hx]; simp only [World.cell?, hh]
  · rw [← hfr p]; simp only [World.frozen?, hh]
  · rw [← d2]; simp only [World.cell?, hh2]

def AddR (w : World) (B b : Nat) (S : St) (C : List Int) (u : Value) (k : Nat) (wr : World) : Prop :=
  ∃ τ V, Rep wr B b τ V ((C.take k).foldl (addLit S.clauses.length) (addClause S C)) ∧ Below B w wr ∧ V.cl[S.clauses.length]? = some u
theorem fold_clauses (n : Nat) (C : List Int) : ∀ (T : St), (C.foldl (addLit n) T).clauses = T.clauses := by
  induction C with
  | nil => exact fun T => rfl
  | cons x t ih => exact fun T => (ih _).trans (addLit_clauses n T x)
theorem fold_ok (n : Nat) (C : List Int) : ∀ (T : St), Ok T → Ok (C.foldl (addLit n) T) := by
  induction C with
  | nil => exact fun T h => h
  | cons x t ih => exact fun T h => ih _ (h.addLit n x)

def Added (w : World) (B b : Nat) (S : St) (w' : World) : Prop := ∃ τ' V', Rep w' B b τ' V' S ∧ Below B w w'

set_option maxHeartbeats 4000000 in
set_option maxRecDepth 100000 in
theorem add_any {w : World} {B b : Nat} {τ : Nat → Nat} {V : Vals} {S : St} (R : Rep w B b τ V S) (h : Ok S) (A : Option Addr) (c : Nat) (xs : List Int) (hC : IC w A xs) (hlen : xs.length * 8 ≤ 140737488355328)
    (hcn : (S.clauses.length + 1) * 24 ≤ 140737488355328) (hin : ∀ c ∈ S.inn, c.length ≤ S.clauses.length) :
    Calls Try.prog 138 #[.pointer (some ⟨b, 0, none⟩), .slice A xs.length c] w fun e w' => e = .returned (.tuple #[]) ∧ Added w B b (addSt S (tidyL xs)) w' := by
  obtain ⟨i3, hi3, z31, z32, z33⟩ := info_parts info3
  obtain ⟨iI, hiI, zI1, zI2, zI3⟩ := info_parts infoI
  have Hi3 := Lib.hid (And.intro hi3 (And.intro z31 (And.intro z32 z33)))
  have HiI := Lib.hid (And.intro hiI (And.intro zI1 (And.intro zI2 zI3)))
  clear hi3 z31 z32 z33 hiI zI1 zI2 zI3
  have HT := Lib.hid (tidy_any A c xs w hC (by omega))
  have hvc : ∃ Ac cc, V.vc = .slice Ac S.clauses.length cc := by
    obtain ⟨Ac, cc, h⟩ := own_slice R.rc.own
    exact ⟨Ac, cc, by rw [h, R.lc]⟩
  obtain ⟨Ac, cc, hvc⟩ := hvc
  obtain ⟨m, vc, vin, vo, von, vv, vw, vt, cl, inn, D⟩ := V
  dsimp only at hvc
  subst hvc
  have HR := Lib.hid R
  have HO := Lib.hid h
  have HCn := Lib.hid hcn
  have HIn := Lib.hid hin
  have htl := tidy_le xs
  have hn0 : (S.clauses.length : Int) ≤ 5864062014805 := by omega
  unfold TidyPost at HT
  generalize tidyL xs = C at *
  generalize xs.length = xl at *
  clear R h hC hlen hcn hin
  go_enter Try.func138, Try.ntmps138
  go_wp2_with (first
    | (go_at_call 54; refine HT.out.mono ?_; rintro e w1 ⟨v1, rfl, hown1, hb1⟩; obtain ⟨A1, c1, rfl⟩ := own_slice hown1; rw [ints_len] at hown1 ⊢; have HR1 := Lib.hid (HR.out.tidied (by rw [ints_len]; exact hown1) hb1 (10 + 2 * S.clauses.length)); obtain ⟨⟨d0, d1, d2, d3, d4, d5, d6, d7, d8, d9⟩, hf1⟩ := cells_at HR1.out.1.blk; dsimp only at d1; clear hown1 hb1 d0 d2 d3 d4 d5 d6 d7 d8 d9)
    | (at_builtin; refine wpList_append_own_at _ rfl (.tmp 19) (.tmp 21) 22 rfl B 25 iI (.slice none 0 0) 1 24 Try.underlying22 HiI.out.1 HiI.out.2.1 HiI.out.2.2.1 HiI.out.2.2.2 rfl (by decide) _ _ _ rfl (HR1.out.1.rc.own.alloc _) ⟨w1.heap.size, 0, none⟩ 1 1 [.slice A1 C.length c1] rfl rfl (one_new _ _ rfl) (by simp [Value.oneCell']) ?_ ?_ ?_ ?_; (have := HR.out.lc; have := HCn.out; unfold maxLen; omega); (have := HR.out.lc; have := HCn.out; omega); (exact base_alloc HR1.out.1.base _); intro v2 w2 hown2 hgrow2 hnil2 hat2; obtain ⟨A2, k2, rfl⟩ := own_slice hown2; have hs2 := stay_push _ hgrow2 HR1.out.1.rc.tag; have HR2 := Lib.hid (HR1.out.1.push_cl hs2 ⟨row_app hown2 rfl, tag_push _ hat2 HR1.out.1.rc.tag⟩ HR1.out.2.1); have HB2 := Lib.hid ((HR1.out.2.2).trans (below_push _ hgrow2 HR1.out.1.base (own_base HR1.out.1.rc.own))); obtain ⟨⟨d0, d1, d2, d3, d4, d5, d6, d7, d8, d9⟩, hf2⟩ := cells_at ((hs2.blk b HR1.out.1.lt (by rw [HR1.out.1.tb]; decide)).trans HR1.out.1.blk); dsimp only at d1 d2 d3 d4 d5 d6 d7; clear d0 d8 d9 hown2 hgrow2 hnil2 hat2 hs2)
    | (at_builtin; refine wpList_append_own_at _ rfl (.tmp 29) (.tmp 32) 25 rfl B 3 i3 (.int .i64 0) 1 8 Try.underlying25 Hi3.out.1 Hi3.out.2.1 Hi3.out.2.2.1 Hi3.out.2.2.2 rfl (by decide) _ _ _ rfl (HR2.out.ro.own.alloc _) ⟨w2.heap.size, 0, none⟩ 1 1 [.int .i64 (C.length : Int)] rfl rfl (one_new _ _ (by simp [World.setCell])) (by simp [Value.oneCell']) ?_ ?_ ?_ ?_; ((try simp only [ints_len]); have := HO.out.lo; have := HCn.out; unfold maxLen; omega); ((try simp only [ints_len]); have := HO.out.lo; have := HCn.out; omega); (exact base_alloc HR2.out.base _); intro v3 w3 hown3 hgrow3 hnil3 hat3; obtain ⟨A3, k3, rfl⟩ := own_slice hown3; have hs3 := stay_push _ hgrow3 HR2.out.ro.tag; have HR3 := Lib.hid (HR2.out.set_vo hs3 ⟨row_snoc (x := (C.length : Int)) hown3, tag_push _ hat3 HR2.out.ro.tag⟩); have HB3 := Lib.hid ((HB2.out.trans ((Below.refl B _).setCell (p := ⟨b, 1, none⟩) HR.out.hb _)).trans (below_push _ hgrow3 HR2.out.base (own_base HR2.out.ro.own))); obtain ⟨⟨d0, d1, d2, d3, d4, d5, d6, d7, d8, d9⟩, hf3⟩ := cells_at ((hs3.blk b HR2.out.lt (by rw [HR2.out.tb]; decide)).trans HR2.out.blk); dsimp only at d1 d2 d3 d4 d5 d6 d7; clear d0 d8 d9 hown3 hgrow3 hnil3 hat3 hs3)
    | (at_builtin; refine wpList_append_own_at _ rfl (.tmp 40) (.tmp 41) 25 rfl B 3 i3 (.int .i64 0) 1 8 Try.underlying25 Hi3.out.1 Hi3.out.2.1 Hi3.out.2.2.1 Hi3.out.2.2.2 rfl (by decide) _ _ _ rfl (HR3.out.ron.own.alloc _) ⟨w3.heap.size, 0, none⟩ 1 1 [.int .i64 0] rfl rfl (one_new _ _ (by simp [World.setCell])) (by simp [Value.oneCell']) ?_ ?_ ?_ ?_; ((try simp only [ints_len]); have := HO.out.ln; have := HCn.out; unfold maxLen; omega); ((try simp only [ints_len]); have := HO.out.ln; have := HCn.out; omega); (exact base_alloc HR3.out.base _); intro v4 w4 hown4 hgrow4 hnil4 hat4; obtain ⟨A4, k4, rfl⟩ := own_slice hown4; have hs4 := stay_push _ hgrow4 HR3.out.ron.tag; have HR4 := Lib.hid (HR3.out.set_von hs4 ⟨row_snoc (x := 0) hown4, tag_push _ hat4 HR3.out.ron.tag⟩); have HB4 := Lib.hid ((HB3.out.trans ((Below.refl B _).setCell (p := ⟨b, 3, none⟩) HR.out.hb _)).trans (below_push _ hgrow4 HR3.out.base (own_base HR3.out.ron.own))); obtain ⟨⟨d0, d1, d2, d3, d4, d5, d6, d7, d8, d9⟩, hf4⟩ := cells_at ((hs4.blk b HR3.out.lt (by rw [HR3.out.tb]; decide)).trans HR3.out.blk); dsimp only at d1 d2 d3 d4 d5 d6 d7; clear d0 d8 d9 hown4 hgrow4 hnil4 hat4 hs4)
    )
  have HA0 := Lib.hid (show AddR w B b S C (.slice A1 C.length c1) 0 _ from ⟨_, _, HR4.out, HB4.out.trans ((Below.refl B _).setCell (p := ⟨b, 4, none⟩) HR.out.hb _), by have := HR.out.lc; dsimp only at this ⊢; rw [← this]; simp⟩)
  go_loopw [47] (fun i wr => ∃ k : Nat, k ≤ C.length ∧ i = .int .i64 k ∧ AddR w B b S C (.slice A1 C.length c1) k wr) (fun i _ => C.length - (intOf i).toNat)
  case atStart => exact ⟨0, Nat.zero_le _, rfl, HA0.out⟩
  case round =>
    obtain ⟨k, hk, rfl, τk, Vk, Rk, hbk, hck⟩ := hrel
    have HRk := Lib.hid Rk
    have HBk := Lib.hid hbk
    have HCk := Lib.hid hck
    clear Rk hbk hck
    by_cases hlt : k < C.length
    · have HOk := Lib.hid (fold_ok S.clauses.length (C.take k) _ (HO.out.addClause C))
      have hcls := fold_clauses S.clauses.length (C.take k) (addClause S C)
      have hcn : ((C.take k).foldl (addLit S.clauses.length) (addClause S C)).clauses[S.clauses.length]? = some C := by rw [hcls]; simp [addClause]
      obtain ⟨gc, cc1, hvc1, _, _, _, _, hcell1, _⟩ := (HRk.out.cl _ _ _ HCk.out hcn).form (by rw [ints_len]; omega)
      rw [ints_len] at hvc1
      injection hvc1 with hA1 _ hc1
      have xk := hcell1 k _ (ints_get hlt)
      have HStep := Lib.hid (fold_take (addLit S.clauses.length) C k hlt (addClause S C))
      have HLen := Lib.hid (fold_len S.clauses.length S.clauses.length (C.take k) (addClause S C) 0 HIn.out)
      generalize hSk : (C.take k).foldl (addLit S.clauses.length) (addClause S C) = Sk at *
      generalize hl : C.getD k 0 = l at *
      subst hA1
      subst hc1
      have HPl := Lib.hid (place_any HRk.out HOk.out l)
      have hpl := pix_lt (HOk.out.place l) l (placeSt_has Sk l)
      have hp0 := pix_ge (placeSt Sk l).ids l
      have HSf := Lib.hid (placeSt_fields Sk l)
      have hCl : ((placeSt Sk l).inn.getD (pix (placeSt Sk l).ids l).toNat []).length ≤ S.clauses.length + k := by
        rw [List.getD_eq_getElem?_getD]
        cases hx : (placeSt Sk l).inn[(pix (placeSt Sk l).ids l).toNat]? with
        | none => simp
        | some c =>
          rcases HSf.out.2.2.2.2.2.2.2 c (List.mem_of_getElem? hx) with hc | rfl
          · have := HLen.out c hc
            rw [List.length_take] at this
            simp only [Option.getD_some]
            omega
          · simp
      have HDef := Lib.hid (show addLit S.clauses.length Sk l = { placeSt Sk l with inn := (placeSt Sk l).inn.set (pix (placeSt Sk l).ids l).toNat ((placeSt Sk l).inn.getD (pix (placeSt Sk l).ids l).toNat [] ++ [(S.clauses.length : Int)]) } from rfl)
      have HIA := Lib.hid (fun (w5 : World) (τ5 : Nat → Nat) (V5 : Vals) (R5 : Rep w5 B b τ5 V5 (placeSt Sk l)) => R5.inat2 (pix (placeSt Sk l).ids l).toNat hpl)
      obtain ⟨p, hp⟩ : ∃ p : Nat, pix (placeSt Sk l).ids l = p := ⟨(pix (placeSt Sk l).ids l).toNat, by omega⟩
      rw [hp] at HPl hpl hCl HDef HIA
      rw [Int.toNat_natCast] at hpl hCl HDef HIA
      generalize hS5 : placeSt Sk l = S5 at *
      generalize hCI : S5.inn.getD p [] = CI at *
      clear hcls hcn hcell1 hp hp0 HSf hSk hS5 hCI HLen
      have hk3 : CI.length ≤ 5864064111958 := by omega
      have hp1 : (p : Int) < S5.inn.length := by omega
      have hp2 : 0 ≤ (p : Int) := by omega
      have Hl := Lib.hid hl
      clear hl hCl
      go_upto_block 1 with (fail)
      go_cut [6] (fun _ wc => AddR w B b S C (.slice (some ⟨gc, 0, none⟩) C.length c1) (k + 1) wc)
      case first =>
        go_wp2_with (first
          | (go_at_call 114; refine HPl.out.mono ?_; rintro e w5 ⟨rfl, τ5, V5, R5, hb5, hp5⟩; obtain ⟨gi, ci, AA, ca, hvin, hBi, d2, xi, hrow, n1, n2, hst⟩ := HIA.out _ _ _ R5; have HR5 := Lib.hid R5; have HB5 := Lib.hid (HBk.out.trans hb5); have HP5 := Lib.hid hp5; have HVin := Lib.hid hvin; have HRow := Lib.hid hrow; have HSt := Lib.hid hst; have d2a := fun o => cell_alloc_old d2 o; have xia := fun o => cell_alloc_old xi o; clear R5 hb5 hp5 hvin hrow hst))
        go_region_law (refine step_append_own rfl (.tmp 65) (.tmp 67) 25 rfl B 3 i3 (.int .i64 0) 1 8 Try.underlying25 Hi3.out.1 Hi3.out.2.1 Hi3.out.2.2.1 Hi3.out.2.2.2 rfl (by decide) _ _ _ rfl (own_alloc_drew HRow.out.own _) ⟨w5.heap.size, 0, none⟩ 1 1 [.int .i64 (S.clauses.length : Int)] rfl rfl (cell_alloc_drew _ _) (by simp [Value.oneCell']) ?_ ?_ ?_ ?_; (rw [ints_len]; unfold maxLen; omega); (rw [ints_len]; omega); (exact base_alloc HR5.out.base _); intro v6 w6 hown6 hgrow6' hnil6 hat6; have hgrow6 := grown_drew hgrow6'; clear hgrow6'; obtain ⟨A6, k6, rfl⟩ := own_slice hown6; have hs6 := stay_push _ hgrow6 HRow.out.tag; have HR6 := Lib.hid (HR5.out.set_in p hs6 ⟨row_snoc (x := (S.clauses.length : Int)) hown6, tag_push _ hat6 HRow.out.tag⟩ HVin.out); have HB6 := Lib.hid (HB5.out.trans (below_push (w := w5) _ hgrow6 HR5.out.base (own_base HRow.out.own))); have x6 := (HSt.out w6 _ hs6).1; have f6 := (HSt.out w6 _ hs6).2.1; have d6 := (HSt.out w6 _ hs6).2.2; clear hown6 hgrow6 hnil6 hat6 hs6)
        all_goals
          go_wp2
          go_meet
          case rel => exact ⟨_, _, by rw [HStep.out, HDef.out]; exact HR6.out, HB6.out.setCell (p := ⟨gi, p, none⟩) hBi _, by show (V5.cl)[S.clauses.length]? = _; rw [show V5.cl = Vk.cl from congrArg Prod.fst HP5.out.2]; exact HCk.out⟩
      case rest =>
        have HCut := Lib.hid hcut
        clear hcut
        go_wp2
        go_roundw
        case rel => exact ⟨k + 1, by omega, by go_num, HCut.out⟩
        case measure => simp [intOf]; omega
    · obtain rfl : k = C.length := by omega
      have HF := Lib.hid (show Added w B b (addSt S C) wr from ⟨_, _, by have := HRk.out; rw [List.take_length] at this; exact this, HBk.out⟩)
      go_wp2
      refine bodyPost_end (results_none rfl _ _ _) rfl ⟨rfl, ?_⟩
      exact HF.out

end Go.Proofs.Ytfljggodnnpeiaa.Spr

namespace Go.Proofs.Ytfljggodnnpeiaa.Spr
open Go.RowKit Go.Maps Go.Proofs.Ytfljggodnnpeiaa.Lit
set_option linter.unusedVariables false

def LitsPost (w : World) (xs : List Int) (e : Ending) (w' : World) : Prop := ∃ v, e = .returned v ∧ w'.ownsRow w.heap.size 3 1 v (ints .i64 xs).length (ints .i64 xs) ∧ Below w.heap.size w w'

def RC (w : World) (A : Option Addr) (cs : List (List Int)) : Prop := ∀ k, k < cs.length → ∃ ad A1 c1, A = some ad ∧ w.cell? (ad.add k) = some (.slice A1 (cs.getD k []).length c1) ∧ IC w A1 (cs.getD k [])
theorem RC.below {w w1 : World} {A : Option Addr} {cs : List (List Int)} (h : RC w A cs) (hb : Below w.heap.size w w1) : RC w1 A cs := fun k hk => by
  obtain ⟨ad, A1, c1, e, hc, hi⟩ := h k hk
  exact ⟨ad, A1, c1, e, (hb.cell (World.block_lt_of_cell? w _ hc)).trans hc, hi.below hb⟩

def St.init : St := ⟨[], [], [], [], [], [], [], [], 0, -1⟩
def newF (cs : List (List Int)) (k : Nat) : St := (cs.take k).foldl (fun S c => addSt S (tidyL c)) St.init

end Go.Proofs.Ytfljggodnnpeiaa.Spr

namespace Go.Proofs.Ytfljggodnnpeiaa.Spr
open Go.RowKit Go.Maps Go.Proofs.Ytfljggodnnpeiaa.Lit
set_option linter.unusedVariables false

def occ (cls : List (List Int)) (l : Int) : List Int := ((List.range cls.length).filter fun n => (cls.getD n []).contains l).map fun (n : Nat) => (n : Int)
theorem occ_snoc (cls : List (List Int)) (C : List Int) (l : Int) : occ (cls ++ [C]) l = occ cls l ++ (if l ∈ C then [(cls.length : Int)] else []) := by
  unfold occ
  rw [List.length_append, List.length_singleton, List.range_succ, List.filter_append, List.map_append]
  congr 1
  · congr 1
    refine List.filter_congr fun n hn => ?_
    have : n < cls.length := by simpa using hn
    rw [List.getD_eq_getElem?_getD, List.getElem?_append_left this, ← List.getD_eq_getElem?_getD]
  · have e : (cls ++ [C]).getD cls.length [] = C := by simp
    rw [List.filter_cons, e]
    by_cases h : l ∈ C
    · simp [h]
    · simp [h]
theorem occ_nil (cls : List (List Int)) (l : Int) (h : ∀ c ∈ cls, l ∉ c) : occ cls l = [] := by
  unfold occ
  rw [List.map_eq_nil_iff, List.filter_eq_nil_iff]
  intro n hn
  have hlt : n < cls.length := by simpa using hn
  rw [List.getD_eq_getElem?_getD, List.getElem?_eq_getElem hlt]
  simpa using h _ (List.getElem_mem hlt)
theorem mem_occ (cls : List (List Int)) (l : Int) (n : Int) : n ∈ occ cls l ↔ 0 ≤ n ∧ n < cls.length ∧ l ∈ cls.getD n.toNat [] := by
  unfold occ
  simp only [List.mem_map, List.mem_filter, List.mem_range]
  constructor
  · rintro ⟨m, ⟨h1, h2⟩, rfl⟩
    exact ⟨by omega, by omega, by simpa using h2⟩
  · rintro ⟨h1, h2, h3⟩
    exact ⟨n.toNat, ⟨by omega, by simpa using h3⟩, by omega⟩
theorem occ_len (cls : List (List Int)) (l : Int) : (occ cls l).length ≤ cls.length := by
  unfold occ
  rw [List.length_map]
  have := List.length_filter_le (fun n => (cls.getD n []).contains l) (List.range cls.length)
  simpa using this

structure Built (S : St) (cls : List (List Int)) : Prop where
  cl : S.clauses = cls
  nd : S.ids.Nodup
  rg : ∀ v ∈ S.ids, 1 ≤ v ∧ v ≤ 1048576
  kn : ∀ c ∈ cls, ∀ l ∈ c, fm l = true ∧ S.ids.contains (lv l) = true
  li : S.inn.length = 2 * S.ids.length
  inn : ∀ l, fm l = true → S.ids.contains (lv l) = true → inAt S l = occ cls l
  val : S.value = List.replicate S.ids.length 0
  why : S.why = List.replicate S.ids.length (-1)
  on : S.on = List.replicate cls.length 0
  opn : S.opn = cls.map fun c => (c.length : Int)
  tr : S.trail = []
  dn : S.done = 0
  bd : S.bad = -1

structure Mid (S : St) (cls : List (List Int)) (C D : List Int) : Prop where
  cl : S.clauses = cls ++ [C]
  nd : S.ids.Nodup
  rg : ∀ v ∈ S.ids, 1 ≤ v ∧ v ≤ 1048576
  kn : ∀ c ∈ cls, ∀ l ∈ c, fm l = true ∧ S.ids.contains (lv l) = true
  kd : ∀ l ∈ D, fm l = true ∧ S.ids.contains (lv l) = true
  li : S.inn.length = 2 * S.ids.length
  inn : ∀ l, fm l = true → S.ids.contains (lv l) = true → inAt S l = occ cls l ++ (if l ∈ D then [(cls.length : Int)] else [])
  val : S.value = List.replicate S.ids.length 0
  why : S.why = List.replicate S.ids.length (-1)
  on : S.on = List.replicate (cls ++ [C]).length 0
  opn : S.opn = (cls ++ [C]).map fun c => (c.length : Int)
  tr : S.trail = []
  dn : S.done = 0
  bd : S.bad = -1

theorem lv_pos {l : Int} (h : fm l = true) : 1 ≤ lv l ∧ lv l ≤ 1048576 := by
  have := fm_true h
  unfold lv
  rw [if_pos h]
  split <;> omega
theorem pix_inj {ids : List Int} {l l' : Int} (hl : fm l = true) (hl' : fm l' = true) (hk : ids.contains (lv l) = true) (hk' : ids.contains (lv l') = true) (h : pix ids l = pix ids l') : l = l' := by
  have e : (ids.idxOf (lv l)) = (ids.idxOf (lv l')) ∧ ((l < 0) ↔ (l' < 0)) := by
    unfold pix at h
    split at h <;> split at h
    · exact ⟨by omega, by simp [*]⟩
    · omega
    · omega
    · exact ⟨by omega, by simp [*]⟩
  have hm : lv l ∈ ids := by simpa using hk
  have hm' : lv l' ∈ ids := by simpa using hk'
  have h1 : lv l = lv l' := by
    have a := List.getElem_idxOf (List.idxOf_lt_length_of_mem hm)
    have b := List.getElem_idxOf (List.idxOf_lt_length_of_mem hm')
    rw [← a, ← b]
    congr 1
    exact e.1
  unfold lv at h1
  rw [if_pos hl, if_pos hl'] at h1
  have := e.2
  split at h1 <;> split at h1 <;> omega
theorem idx_app {ids : List Int} {v x : Int} (h : ids.contains v = true) : (ids ++ [x]).idxOf v = ids.idxOf v := by
  rw [List.idxOf_append, if_pos (by simpa using h)]
theorem pix_app {ids : List Int} {l x : Int} (h : ids.contains (lv l) = true) : pix (ids ++ [x]) l = pix ids l := by
  unfold pix; rw [idx_app h]

theorem inAt_place {S : St} (hli : S.inn.length = 2 * S.ids.length) (l l' : Int) (hk : S.ids.contains (lv l') = true) : inAt (placeSt S l) l' = inAt S l' := by
  unfold placeSt
  by_cases h : S.ids.contains (lv l) = true
  · rw [if_pos h]
  · rw [if_neg h]
    unfold inAt
    show (S.inn ++ [[], []]).getD (pix (S.ids ++ [lv l]) l').toNat [] = _
    rw [pix_app hk]
    have hlt : (pix S.ids l').toNat < S.inn.length := by
      have := List.idxOf_lt_length_of_mem (show lv l' ∈ S.ids by simpa using hk)
      unfold pix; split <;> omega
    rw [List.getD_eq_getElem?_getD, List.getElem?_append_left hlt, ← List.getD_eq_getElem?_getD]
theorem inAt_fresh {S : St} (hli : S.inn.length = 2 * S.ids.length) (l l' : Int) (hk : ¬ S.ids.contains (lv l') = true) (he : lv l' = lv l) : inAt (placeSt S l) l' = [] := by
  unfold placeSt
  rw [if_neg (by rw [← he]; exact hk)]
  unfold inAt
  show (S.inn ++ [[], []]).getD (pix (S.ids ++ [lv l]) l').toNat [] = _
  have h0 : (S.ids ++ [lv l]).idxOf (lv l') = S.ids.length := by
    rw [he, List.idxOf_append, if_neg (by rw [← he]; simpa using hk)]; simp
  have hp : (pix (S.ids ++ [lv l]) l').toNat = S.inn.length ∨ (pix (S.ids ++ [lv l]) l').toNat = S.inn.length + 1 := by
    unfold pix; rw [h0]; split <;> omega
  rw [List.getD_eq_getElem?_getD]
  rcases hp with hp | hp
  · rw [hp, List.getElem?_append_right (Nat.le_refl _)]; simp
  · rw [hp, List.getElem?_append_right (by omega)]
    rw [show S.inn.length + 1 - S.inn.length = 1 by omega]; rfl

theorem Mid.step {S : St} {cls : List (List Int)} {C D : List Int} (M : Mid S cls C D) (l : Int) (hl : fm l = true) (hd : l ∉ D) : Mid (addLit cls.length S l) cls C (D ++ [l]) := by
  have hli := M.li
  have hnd := M.nd
  have hk' := placeSt_has S l
  have hli' : (placeSt S l).inn.length = 2 * (placeSt S l).ids.length := by
    unfold placeSt; split
    · exact hli
    · simp [newPlace, hli]; omega
  have hids : (placeSt S l).ids = S.ids ∨ (¬ S.ids.contains (lv l) = true ∧ (placeSt S l).ids = S.ids ++ [lv l]) := by
    unfold placeSt; by_cases h : S.ids.contains (lv l) = true
    · rw [if_pos h]; exact .inl rfl
    · rw [if_neg h]; exact .inr ⟨h, rfl⟩
  have hmono : ∀ v, S.ids.contains v = true → (placeSt S l).ids.contains v = true := (placeSt_fields S l).2.2.2.2.2.2.1
  have hin : ∀ l', fm l' = true → (placeSt S l).ids.contains (lv l') = true → inAt (placeSt S l) l' = occ cls l' ++ (if l' ∈ D then [(cls.length : Int)] else []) := by
    intro l' hf hk
    by_cases h : S.ids.contains (lv l') = true
    · rw [inAt_place hli l l' h]; exact M.inn l' hf h
    · have he : lv l' = lv l := by
        rcases hids with e | ⟨_, e⟩
        · rw [e] at hk; exact absurd hk h
        · rw [e] at hk
          simp only [List.contains_iff_mem, List.mem_append, List.mem_singleton] at hk h
          exact hk.resolve_left h
      rw [inAt_fresh hli l l' h he]
      have h1 : occ cls l' = [] := occ_nil cls l' fun c hc hm => h (M.kn c hc l' hm).2
      have h2 : l' ∉ D := fun hm => h (M.kd l' hm).2
      rw [h1, if_neg h2]; rfl
  obtain ⟨f1, f2, f3, f4, f5, f6, _, _⟩ := placeSt_fields S l
  have hval : (placeSt S l).value = List.replicate (placeSt S l).ids.length 0 := by
    unfold placeSt; split
    · exact M.val
    · simp [newPlace, M.val, List.replicate_succ']
  have hwhy : (placeSt S l).why = List.replicate (placeSt S l).ids.length (-1) := by
    unfold placeSt; split
    · exact M.why
    · simp [newPlace, M.why, List.replicate_succ']
  refine ⟨f1.trans M.cl, ?_, ?_, fun c hc x hx => ⟨(M.kn c hc x hx).1, hmono _ (M.kn c hc x hx).2⟩, ?_, by simp [addLit, hli'], ?_, hval, hwhy, f3.trans M.on, f2.trans M.opn, f4.trans M.tr, f5.trans M.dn, f6.trans M.bd⟩
  · show (placeSt S l).ids.Nodup
    rcases hids with e | ⟨h, e⟩
    · rw [e]; exact hnd
    · rw [e, List.nodup_append]
      refine ⟨hnd, by simp, ?_⟩
      intro a ha b hb e
      simp at hb; subst hb; subst e
      exact h (by simpa using ha)
  · intro v hv
    have hv' : v ∈ (placeSt S l).ids := hv
    rcases hids with e | ⟨h, e⟩
    · rw [e] at hv'; exact M.rg v hv'
    · rw [e] at hv'
      rcases List.mem_append.1 hv' with h | h
      · exact M.rg v h
      · simp at h; subst h; exact lv_pos hl
  · intro x hx
    rcases List.mem_append.1 hx with hx | hx
    · exact ⟨(M.kd x hx).1, hmono _ (M.kd x hx).2⟩
    · simp at hx; subst hx; exact ⟨hl, hk'⟩
  · intro l' hf hk
    have hk2 : (placeSt S l).ids.contains (lv l') = true := hk
    have hi := hin l' hf hk2
    show ((placeSt S l).inn.set (pix (placeSt S l).ids l).toNat _).getD (pix (placeSt S l).ids l').toNat [] = _
    have hq0 := pix_ge (placeSt S l).ids l
    have hq1 := pix_ge (placeSt S l).ids l'
    by_cases he : l' = l
    · subst he
      have hlt : (pix (placeSt S l').ids l').toNat < (placeSt S l').inn.length := by
        have := List.idxOf_lt_length_of_mem (show lv l' ∈ (placeSt S l').ids by simpa using hk')
        unfold pix; split <;> omega
      rw [List.getD_eq_getElem?_getD, List.getElem?_set_self hlt]
      unfold inAt at hi
      rw [hi, if_neg hd, List.append_nil, if_pos (by simp)]
      rfl
    · have hne : (pix (placeSt S l).ids l).toNat ≠ (pix (placeSt S l).ids l').toNat := fun e => he (pix_inj hf hl hk2 hk' (by omega))
      rw [List.getD_eq_getElem?_getD, List.getElem?_set_ne hne, ← List.getD_eq_getElem?_getD]
      unfold inAt at hi
      rw [hi]
      congr 1
      by_cases hm : l' ∈ D
      · rw [if_pos hm, if_pos (by simp [hm])]
      · rw [if_neg hm, if_neg (by simp [hm, he])]

theorem Mid.fold {cls : List (List Int)} {C : List Int} (hf : ∀ l ∈ C, fm l = true) (hn : C.Nodup) : ∀ (E D : List Int) (S : St), C = D ++ E → Mid S cls C D → Mid (E.foldl (addLit cls.length) S) cls C C
  | [], D, S, he, M => by rw [List.append_nil] at he; subst he; exact M
  | x :: t, D, S, he, M => by
    have hx : x ∈ C := by rw [he]; simp
    have hd : x ∉ D := fun h => by
      rw [he, List.nodup_append] at hn
      exact hn.2.2 x h x (by simp) rfl
    exact Mid.fold hf hn t (D ++ [x]) _ (by rw [he]; simp) (M.step x (hf x hx) hd)

theorem Built.add {S : St} {cls : List (List Int)} (h : Built S cls) (C : List Int) (hf : ∀ l ∈ C, fm l = true) (hn : C.Nodup) : Built (addSt S C) (cls ++ [C]) := by
  have M0 : Mid (addClause S C) cls C [] :=
    ⟨by simp [addClause, h.cl], h.nd, h.rg, h.kn, by simp, h.li, fun l hl hk => by rw [if_neg (by simp), List.append_nil]; exact h.inn l hl hk, h.val, h.why, by simp [addClause, h.on, List.replicate_succ'], by simp [addClause, h.opn], h.tr, h.dn, h.bd⟩
  have M := Mid.fold hf hn C [] _ rfl M0
  unfold addSt
  rw [h.cl]
  refine ⟨M.cl, M.nd, M.rg, ?_, M.li, fun l hl hk => by rw [M.inn l hl hk, occ_snoc], M.val, M.why, M.on, M.opn, M.tr, M.dn, M.bd⟩
  intro c hc l hl
  rcases List.mem_append.1 hc with hc | hc
  · exact M.kn c hc l hl
  · simp at hc; subst hc; exact M.kd l hl

theorem Built.init : Built ⟨[], [], [], [], [], [], [], [], 0, -1⟩ [] :=
  ⟨rfl, List.nodup_nil, by simp, by simp, rfl, by simp, rfl, rfl, rfl, rfl, rfl, rfl, rfl⟩

theorem Built.lit {S : St} {cls : List (List Int)} (h : Built S cls) (p : Nat) (hp : p < S.inn.length) : ∃ l, fm l = true ∧ S.ids.contains (lv l) = true ∧ pix S.ids l = p := by
  have hp2 : p / 2 < S.ids.length := by have := h.li; omega
  have hv := h.rg S.ids[p / 2] (List.getElem_mem hp2)
  have hix : S.ids.idxOf S.ids[p / 2] = p / 2 := h.nd.idxOf_getElem _ hp2
  by_cases hpar : p % 2 = 1
  · have hf : fm (-S.ids[p / 2]) = true := by unfold fm; rw [decide_eq_true_iff]; omega
    have hl : lv (-S.ids[p / 2]) = S.ids[p / 2] := by
      unfold lv
      rw [if_pos hf, if_pos (by omega)]; omega
    refine ⟨-S.ids[p / 2], hf, by rw [hl]; simp, ?_⟩
    unfold pix
    rw [hl, hix, if_pos (by omega)]; omega
  · have hf : fm S.ids[p / 2] = true := by unfold fm; rw [decide_eq_true_iff]; omega
    have hl : lv S.ids[p / 2] = S.ids[p / 2] := by
      unfold lv
      rw [if_pos hf, if_neg (by omega)]
    refine ⟨S.ids[p / 2], hf, by rw [hl]; simp, ?_⟩
    unfold pix
    rw [hl, hix, if_neg (by omega)]; omega
theorem Built.inn_len {S : St} {cls : List (List Int)} (h : Built S cls) : ∀ c ∈ S.inn, c.length ≤ S.clauses.length := by
  intro c hc
  obtain ⟨p, hp, e⟩ := List.getElem_of_mem hc
  obtain ⟨l, hl, hk, hpx⟩ := h.lit p hp
  have := h.inn l hl hk
  unfold inAt at this
  rw [hpx, Int.toNat_natCast, List.getD_eq_getElem?_getD, List.getElem?_eq_getElem hp] at this
  simp only [Option.getD_some] at this
  rw [← e, this, h.cl]
  exact occ_len cls l

end Go.Proofs.Ytfljggodnnpeiaa.Spr

namespace Go.Proofs.Ytfljggodnnpeiaa.Spr
open Go.RowKit Go.Maps Go.Proofs.Ytfljggodnnpeiaa.Lit
set_option linter.unusedVariables false

theorem tidy_nodup (xs : List Int) : (tidyL xs).Nodup := (tidy_rising xs).imp (fun h e => by subst e; omega)
theorem newF_succ (cs : List (List Int)) (k : Nat) (hk : k < cs.length) : newF cs (k + 1) = addSt (newF cs k) (tidyL (cs.getD k [])) := by
  unfold newF
  rw [List.take_succ_eq_append_getElem hk, List.foldl_append, List.getD_eq_getElem?_getD, List.getElem?_eq_getElem hk]; rfl
theorem newF_built (cs : List (List Int)) : ∀ k, k ≤ cs.length → Built (newF cs k) ((cs.take k).map tidyL)
  | 0, _ => Built.init
  | k + 1, hk => by
    rw [newF_succ cs k (by omega)]
    have h := newF_built cs k (by omega)
    have := h.add (tidyL (cs.getD k [])) (fun l hl => ((mem_tidy _ l).1 hl).2) (tidy_nodup _)
    rw [List.take_succ_eq_append_getElem (by omega), List.map_append]
    rw [List.getD_eq_getElem?_getD, List.getElem?_eq_getElem (by omega)] at this ⊢
    exact this
theorem Built.ok {S : St} {cls : List (List Int)} (h : Built S cls) : Ok S := by
  refine ⟨h.nd, fun v hv => by have := h.rg v hv; omega, by rw [h.val]; simp, by rw [h.why]; simp, h.li, ?_, ?_, by rw [h.opn, h.cl]; simp, by rw [h.on, h.cl]; simp⟩
  · intro x hx
    rw [h.val] at hx
    have := List.eq_of_mem_replicate hx
    omega
  · rw [h.tr, h.val]
    simp
theorem Built.good {S : St} {cls : List (List Int)} (h : Built S cls) : Good S := by
  refine ⟨h.ok, by rw [h.tr]; simp, by rw [h.tr]; simp, by rw [h.cl]; exact fun c hc l hl => (h.kn c hc l hl).1, ?_, by rw [h.tr, h.dn]; simp⟩
  intro c hc n hn
  obtain ⟨p, hp, e⟩ := List.getElem_of_mem hc
  have hp2 : p / 2 < S.ids.length := by have := h.li; omega
  have hv := h.rg S.ids[p / 2] (List.getElem_mem hp2)
  obtain ⟨l, hl, hk, hpx⟩ := h.lit p hp
  have := h.inn l hl hk
  unfold inAt at this
  rw [hpx, Int.toNat_natCast, List.getD_eq_getElem?_getD, List.getElem?_eq_getElem hp] at this
  simp only [Option.getD_some] at this
  rw [← e, this] at hn
  have := (mem_occ cls l n).1 hn
  rw [h.cl]
  exact ⟨this.1, this.2.1⟩
theorem Built.known {S : St} {cls : List (List Int)} (h : Built S cls) : Known S := by
  intro c hc l hl
  rw [h.cl] at hc
  exact (h.kn c hc l hl).2

theorem MapIs.init : MapIs (.map []) [] := fun v => ⟨rfl, fun h => by simp at h⟩

theorem rep_init (w : World) : Rep ((w.alloc (.map #[] 0)).alloc (.cells #[.map (some w.heap.size), .slice none 0 0, .slice none 0 0, .slice none 0 0, .slice none 0 0, .slice none 0 0, .slice none 0 0, .slice none 0 0, .int .i64 0, .int .i64 (-1)] 134)) w.heap.size (w.heap.size + 1)
    (fun k => if k = w.heap.size then 1 else 0) ⟨w.heap.size, .slice none 0 0, .slice none 0 0, .slice none 0 0, .slice none 0 0, .slice none 0 0, .slice none 0 0, .slice none 0 0, [], [], .map [], .slice none 0 0, []⟩ St.init := by
  have hn : ∀ (W : World) (t e : Nat) (k : IntKind), IRow W w.heap.size (fun k => if k = w.heap.size then 1 else 0) t e k (.slice none 0 0) [] := fun W t e k => ⟨⟨by simp [ints], .inl ⟨rfl, by simp [ints]⟩⟩, Tg.nil _ _ _ _⟩
  refine ⟨?_, by omega, by simp, (World.ownsMap_made w _ _ _).alloc _, Nat.le_refl _, by simp, MapIs.init, ⟨⟨by simp, .inl ⟨rfl, rfl⟩⟩, Tg.nil _ _ _ _⟩, rfl, by simp, ⟨⟨by simp, .inl ⟨rfl, rfl⟩⟩, Tg.nil _ _ _ _⟩, rfl, by simp, hn _ _ _ _, hn _ _ _ _, hn _ _ _ _, hn _ _ _ _, hn _ _ _ _, hn _ _ _ _⟩
  have h1 : (w.alloc (.map #[] 0)).heap.size = w.heap.size + 1 := by simp
  have := heap_alloc_new (w.alloc (.map #[] 0)) (.cells #[.map (some w.heap.size), .slice none 0 0, .slice none 0 0, .slice none 0 0, .slice none 0 0, .slice none 0 0, .slice none 0 0, .slice none 0 0, .int .i64 0, .int .i64 (-1)] 134)
  rw [h1] at this
  exact this

def NewPost (w : World) (cs : List (List Int)) (e : Ending) (w' : World) : Prop :=
  ∃ b τ V, e = .returned (.pointer (some ⟨b, 0, none⟩)) ∧ Rep w' w.heap.size b τ V (newF cs cs.length) ∧ Below w.heap.size w w'
def NewR (w : World) (b : Nat) (cs : List (List Int)) (k : Nat) (wr : World) : Prop := ∃ τ V, Rep wr w.heap.size b τ V (newF cs k) ∧ Below w.heap.size w wr

set_option maxHeartbeats 2000000 in
set_option maxRecDepth 100000 in
theorem new_any (A : Option Addr) (c : Nat) (cs : List (List Int)) (w : World) (hC : RC w A cs) (h8 : ∀ x ∈ cs, x.length * 8 ≤ 140737488355328) (h24 : cs.length * 24 ≤ 140737488355328) :
    Calls Try.prog 107 #[.slice A cs.length c] w (NewPost w cs) := by
  have HC := Lib.hid hC
  have H8 := Lib.hid h8
  have hn : (cs.length : Int) ≤ 5864062014805 := by omega
  have H24 := Lib.hid h24
  have HI := Lib.hid (rep_init w)
  have hmm := @run_makeMap Try.prog
  clear hC h8 h24
  unfold NewPost
  generalize hN : cs.length = N at *
  have HN := Lib.hid hN
  clear hN
  go_enter Try.func107, Try.ntmps107
  go_wp2
  go_loopw [11] (fun i wr => ∃ k : Nat, k ≤ N ∧ i = .int .i64 k ∧ NewR w (w.heap.size + 1) cs k wr) (fun i _ => N - (intOf i).toNat)
  case atStart => exact ⟨0, Nat.zero_le _, rfl, _, _, HI.out, ((Below.refl _ _).alloc (Nat.le_refl _) _).alloc (by simp) _⟩
  case round =>
    obtain ⟨k, hk, rfl, hr⟩ := hrel
    by_cases hlt : k < N
    · obtain ⟨τ1, V1, R1, hb1⟩ := hr
      obtain ⟨ad, A1, c1, hA, hx, hIC⟩ := HC.out k (by rw [HN.out]; exact hlt)
      replace hx := (hb1.cell (World.block_lt_of_cell? w _ hx)).trans hx
      have hB := newF_built cs k (by rw [HN.out]; exact hk)
      have hcl : (newF cs k).clauses.length = k := by rw [hB.cl, List.length_map, List.length_take, HN.out]; omega
      have hx8 : (cs.getD k []).length * 8 ≤ 140737488355328 := H8.out _ (by rw [List.getD_eq_getElem?_getD, List.getElem?_eq_getElem (by rw [HN.out]; exact hlt)]; exact List.getElem_mem _)
      have HAd := Lib.hid (add_any R1 hB.ok A1 c1 (cs.getD k []) (hIC.below hb1) hx8 (by rw [hcl]; have := H24.out; omega) hB.inn_len)
      have HS := Lib.hid (newF_succ cs k (by rw [HN.out]; exact hlt))
      have HB1 := Lib.hid hb1
      subst hA
      clear R1 hb1 hIC hB hcl hx8
      generalize cs.getD k [] = C at *
      generalize tidyL C = TC at *
      go_wp2_with (first
        | (go_at_call 138; refine HAd.out.mono ?_; rintro e w2 ⟨rfl, τ2, V2, R2, hb2⟩; have HR2 := Lib.hid R2; have HB2 := Lib.hid (HB1.out.trans hb2); clear R2 hb2))
      go_roundw
      case rel => exact ⟨k + 1, by omega, by go_num, _, _, by rw [HS.out]; exact HR2.out, HB2.out⟩
      case measure => simp [intOf]; omega
    · obtain rfl : k = N := by omega
      have HR := Lib.hid hr
      clear hr
      go_wp2
      go_ret
      obtain ⟨τ1, V1, R1, hb1⟩ := HR.out
      exact ⟨_, _, _, rfl, R1, hb1⟩

end Go.Proofs.Ytfljggodnnpeiaa.Spr

namespace Go.Proofs.Ytfljggodnnpeiaa.Spr
open Go.RowKit Go.Maps Go.Proofs.Ytfljggodnnpeiaa.Lit
set_option linter.unusedVariables false

def putsF : St → List Int → St × Bool
  | S, [] => (S, true)
  | S, l :: t => if putOk S l = true then putsF (putSt S l (-1)) t else (putSt S l (-1), false)
def fuel (S : St) : Nat := S.trail.length + S.ids.length + 1
def ranSt (S : St) : St := runF (fuel (beginSt S)) (beginSt S)
def closedSt (cs : List (List Int)) (F : List Int) : St × Bool :=
  if (putsF (newF cs cs.length) F).2 = true then (ranSt (putsF (newF cs cs.length) F).1, decide ((ranSt (putsF (newF cs cs.length) F).1).bad = -1)) else putsF (newF cs cs.length) F

theorem Known.put {S : St} (h : Known S) (l why : Int) : Known (putSt S l why) := by
  obtain ⟨e1, _, _, _, _, e6, _⟩ := putSt_fields S l why
  obtain ⟨_, _, _, _, _, _, f7, _⟩ := placeSt_fields S l
  intro c hc x hx
  rw [e1] at hc
  rw [e6]
  exact f7 _ (h c hc x hx)
theorem look_known {S : St} (h : Known S) (n : Nat) : Known (lookSt S n) := by
  unfold lookSt
  split
  · exact h
  · split
    · exact h
    · unfold unitSt
      split
      · exact h.put _ _
      · exact h
theorem begin_known {S : St} (h : Known S) : ∀ k, Known (beginF S k)
  | 0 => h
  | k + 1 => by rw [beginF_succ]; exact look_known (begin_known h k) k

theorem head_in {S : St} (h : Good S) (hg : goes S = true) : S.inn[(pix S.ids (S.trail.getD S.done.toNat 0)).toNat]? = some (inAt S (S.trail.getD S.done.toNat 0)) ∧ S.inn[(pix S.ids (-(S.trail.getD S.done.toNat 0))).toNat]? = some (inAt S (-(S.trail.getD S.done.toNat 0))) := by
  obtain ⟨hbad, hdone⟩ : S.bad = -1 ∧ S.done < S.trail.length := of_decide_eq_true hg
  have hd := h.dn
  have hlt : S.done.toNat < S.trail.length := by omega
  have hm : S.trail.getD S.done.toNat 0 ∈ S.trail := by
    rw [List.getD_eq_getElem?_getD, List.getElem?_eq_getElem hlt]; exact List.getElem_mem _
  have hf := h.tf _ hm
  have hk := h.tk _ hm
  have h1 := pix_lt h.ok _ hk
  have h2 := pix_lt h.ok (-(S.trail.getD S.done.toNat 0)) (by rw [lv_neg hf]; exact hk)
  unfold inAt
  refine ⟨?_, ?_⟩
  · rw [List.getD_eq_getElem?_getD (l := S.inn), List.getElem?_eq_getElem h1]; rfl
  · rw [List.getD_eq_getElem?_getD (l := S.inn), List.getElem?_eq_getElem h2]; rfl
theorem run_like {S : St} (hK : Known S) : ∀ (k : Nat) {T : St}, Like S T → Like S (runF k T)
  | 0, T, h => h
  | k + 1, T, h => by
    unfold runF
    by_cases hg : goes T = true
    · rw [if_pos hg]
      exact run_like hK k (stepSt_like h hK hg _ _ (head_in h.good hg).1 (head_in h.good hg).2)
    · rw [if_neg hg]; exact h

theorem puts_drop {S0 S : St} {F : List Int} {k : Nat} (h : putsF S0 F = putsF S (F.drop k)) (hk : k < F.length) : putsF S0 F = if putOk S (F.getD k 0) = true then putsF (putSt S (F.getD k 0) (-1)) (F.drop (k + 1)) else (putSt S (F.getD k 0) (-1), false) := by
  rw [h, List.drop_eq_getElem_cons hk, putsF, List.getD_eq_getElem?_getD, List.getElem?_eq_getElem hk]; rfl

end Go.Proofs.Ytfljggodnnpeiaa.Spr

namespace Go.Proofs.Ytfljggodnnpeiaa.Spr
open Go.RowKit Go.Maps Go.Proofs.Ytfljggodnnpeiaa.Lit
set_option linter.unusedVariables false

theorem all_no {α : Type} {p : α → Bool} {xs : List α} {d : α} {k : Nat} (hk : k < xs.length) (h : p (xs.getD k d) = false) : xs.all p = false := by
  rw [Bool.eq_false_iff]
  intro ha
  rw [List.all_eq_true] at ha
  have := ha (xs.getD k d) (by rw [List.getD_eq_getElem?_getD, List.getElem?_eq_getElem hk]; exact List.getElem_mem _)
  rw [h] at this
  cases this
theorem all_step {α : Type} {p : α → Bool} {xs : List α} {d : α} {k : Nat} (hk : k < xs.length) (h : p (xs.getD k d) = true) (ht : (xs.take k).all p = true) : (xs.take (k + 1)).all p = true := by
  rw [List.take_succ_eq_append_getElem hk, List.all_append, ht]
  rw [List.getD_eq_getElem?_getD, List.getElem?_eq_getElem hk] at h
  simpa using h

set_option maxHeartbeats 1000000 in
theorem sound_any (A : Option Addr) (c : Nat) (xs : List Int) (w : World) (hC : IC w A xs) (hl : xs.length ≤ 9223372036854775807) :
    Calls Try.prog 92 #[.slice A xs.length c] w fun e w' => e = .returned (.bool (xs.all fm)) ∧ w = w' := by
  have HC := Lib.hid hC
  clear hC
  generalize hn : xs.length = n at *
  have Hn := Lib.hid hn
  clear hn
  generalize hR : xs.all fm = R at *
  have HR := Lib.hid hR
  clear hR
  go_enter Try.func92, Try.ntmps92
  go_wp2
  go_loop [7] (fun i => ∃ k : Nat, k ≤ n ∧ i = .int .i64 k ∧ Hid ((xs.take k).all fm = true)) (fun i => n - (intOf i).toNat)
  case atStart => exact ⟨0, Nat.zero_le _, rfl, by show _ = _; simp⟩
  case round =>
    obtain ⟨k, hk, rfl, hA⟩ := hrel
    by_cases hlt : k < n
    · obtain ⟨ad, hA1, hx⟩ := HC.out k (by rw [Hn.out]; exact hlt)
      subst hA1
      have HNo := Lib.hid (fun h => all_no (p := fm) (xs := xs) (d := 0) (k := k) (by rw [Hn.out]; exact hlt) h)
      have HYes := Lib.hid (fun h => all_step (p := fm) (xs := xs) (d := 0) (k := k) (by rw [Hn.out]; exact hlt) h hA.out)
      generalize xs.getD k 0 = l at *
      obtain ⟨f, hf⟩ : ∃ f, fm l = f := ⟨_, rfl⟩
      have HF := Lib.hid hf
      clear hf
      cases f with
      | true =>
        go_wp2_with (go_at_call 59; refine (formed_any _ _).mono ?_; rintro e w' ⟨rfl, rfl⟩; rw [HF.out])
        go_round
        case rel => exact ⟨k + 1, by omega, by go_num, HYes.out HF.out⟩
        case measure => simp [intOf]; omega
      | false =>
        go_wp2_with (go_at_call 59; refine (formed_any _ _).mono ?_; rintro e w' ⟨rfl, rfl⟩; rw [HF.out])
        go_ret
        exact ⟨by rw [← HR.out, HNo.out HF.out]; rfl, rfl⟩
    · obtain rfl : k = n := by omega
      have hE := hA.out
      rw [← Hn.out, List.take_length] at hE
      have HE := Lib.hid hE
      clear hE
      go_wp2
      go_ret
      exact ⟨by rw [← HR.out, HE.out]; rfl, rfl⟩

def withinB (xs : List Int) (v : Int) : Bool := xs.all fm && xs.all fun l => decide (lv l ≤ v)

set_option maxHeartbeats 1000000 in
theorem within_any (A : Option Addr) (c : Nat) (xs : List Int) (v : Int) (w : World) (hC : IC w A xs) (hl : xs.length ≤ 9223372036854775807) :
    Calls Try.prog 113 #[.slice A xs.length c, .int .i64 v] w fun e w' => e = .returned (.bool (withinB xs v)) ∧ w = w' := by
  have HS := Lib.hid (sound_any A c xs w hC hl)
  unfold withinB
  obtain ⟨f, hf⟩ : ∃ f, xs.all fm = f := ⟨_, rfl⟩
  rw [hf] at HS ⊢
  clear hf
  have HC := Lib.hid hC
  clear hC
  generalize hn : xs.length = n at *
  have Hn := Lib.hid hn
  clear hn
  cases f with
  | false =>
    rw [Bool.false_and]
    go_enter Try.func113, Try.ntmps113
    go_wp2_with (go_at_call 92; refine HS.out.mono ?_; rintro e w' ⟨rfl, rfl⟩)
    go_ret
    exact ⟨rfl, rfl⟩
  | true =>
    rw [Bool.true_and]
    generalize hR : (xs.all fun l => decide (lv l ≤ v)) = R at *
    have HR := Lib.hid hR
    clear hR
    go_enter Try.func113, Try.ntmps113
    go_wp2_with (go_at_call 92; refine HS.out.mono ?_; rintro e w' ⟨rfl, rfl⟩)
    go_loop [12] (fun i => ∃ k : Nat, k ≤ n ∧ i = .int .i64 k ∧ Hid (((xs.take k).all fun l => decide (lv l ≤ v)) = true)) (fun i => n - (intOf i).toNat)
    case atStart => exact ⟨0, Nat.zero_le _, rfl, by show _ = _; simp⟩
    case round =>
      obtain ⟨k, hk, rfl, hA⟩ := hrel
      by_cases hlt : k < n
      · obtain ⟨ad, hA1, hx⟩ := HC.out k (by rw [Hn.out]; exact hlt)
        subst hA1
        have HNo := Lib.hid (fun h => all_no (p := fun l => decide (lv l ≤ v)) (xs := xs) (d := 0) (k := k) (by rw [Hn.out]; exact hlt) h)
        have HYes := Lib.hid (fun h => all_step (p := fun l => decide (lv l ≤ v)) (xs := xs) (d := 0) (k := k) (by rw [Hn.out]; exact hlt) h hA.out)
        generalize xs.getD k 0 = l at *
        have HVr := Lib.hid (var_any l)
        generalize lv l = u at *
        by_cases hu : u ≤ v
        · have hu' : ¬ (v < u) := by omega
          have HU := Lib.hid hu
          clear hu
          go_wp2_with (go_at_call 112; refine (HVr.out _).mono ?_; rintro e w' ⟨rfl, rfl⟩)
          go_round
          case rel => exact ⟨k + 1, by omega, by go_num, HYes.out (decide_eq_true HU.out)⟩
          case measure => simp [intOf]; omega
        · have hu' : v < u := by omega
          have HU := Lib.hid hu
          clear hu
          go_wp2_with (go_at_call 112; refine (HVr.out _).mono ?_; rintro e w' ⟨rfl, rfl⟩)
          go_ret
          exact ⟨by rw [← HR.out, HNo.out (decide_eq_false (by have := HU.out; omega))]; rfl, rfl⟩
      · obtain rfl : k = n := by omega
        have hE := hA.out
        rw [← Hn.out, List.take_length] at hE
        have HE := Lib.hid hE
        clear hE
        go_wp2
        go_ret
        exact ⟨by rw [← HR.out, HE.out]; rfl, rfl⟩

def formedB (v : Int) (cs : List (List Int)) : Bool := decide (0 ≤ v) && decide (v ≤ 1048576) && cs.all fun c => withinB c v

set_option maxHeartbeats 2000000 in
set_option maxRecDepth 100000 in
theorem cformed_any (v : Int) (A : Option Addr) (c : Nat) (cs : List (List Int)) (w : World) (hC : RC w A cs) (hl : cs.length ≤ 9223372036854775807) (hl2 : ∀ x ∈ cs, x.length ≤ 9223372036854775807) :
    Calls Try.prog 61 #[.agg #[.int .i64 v, .slice A cs.length c]] w fun e w' => e = .returned (.bool (formedB v cs)) ∧ Below w.heap.size w w' := by
  have hHB : Below w.heap.size w (w.alloc (.cells #[.int .i64 v, .slice A cs.length c] 24)) := (Below.refl _ _).alloc (Nat.le_refl _) _
  have HB := Lib.hid hHB
  have HC := Lib.hid (hC.below hHB)
  have HL2 := Lib.hid hl2
  clear hC hHB hl2
  generalize hn : cs.length = n at *
  have Hn := Lib.hid hn
  clear hn
  have hF : formedB v cs = (decide (0 ≤ v) && decide (v ≤ 1048576) && cs.all fun c => withinB c v) := rfl
  generalize formedB v cs = R at *
  have HR := Lib.hid hF
  clear hF
  by_cases h0 : v < 0
  · have HE := Lib.hid (show R = false by rw [HR.out, decide_eq_false (show ¬ 0 ≤ v by omega)]; rfl)
    go_enter Try.func61, Try.ntmps61
    go_wp2
    go_ret
    exact ⟨by rw [HE.out]; rfl, HB.out⟩
  · by_cases h1 : 1048576 < v
    · have HE := Lib.hid (show R = false by rw [HR.out, decide_eq_false (show ¬ v ≤ 1048576 by omega), Bool.and_false]; rfl)
      go_enter Try.func61, Try.ntmps61
      go_wp2
      go_ret
      exact ⟨by rw [HE.out]; rfl, HB.out⟩
    · have HE := Lib.hid (show R = cs.all fun c => withinB c v by rw [HR.out, decide_eq_true (show 0 ≤ v by omega), decide_eq_true (show v ≤ 1048576 by omega)]; rfl)
      go_enter Try.func61, Try.ntmps61
      go_wp2
      go_loop [16] (fun i => ∃ k : Nat, k ≤ n ∧ i = .int .i64 k ∧ Hid (((cs.take k).all fun c => withinB c v) = true)) (fun i => n - (intOf i).toNat)
      case atStart => exact ⟨0, Nat.zero_le _, rfl, by show _ = _; simp⟩
      case round =>
        obtain ⟨k, hk, rfl, hA⟩ := hrel
        by_cases hlt : k < n
        · obtain ⟨ad, A1, c1, hA1, hx, hIC⟩ := HC.out k (by rw [Hn.out]; exact hlt)
          subst hA1
          have HNo := Lib.hid (fun h => all_no (p := fun c => withinB c v) (xs := cs) (d := []) (k := k) (by rw [Hn.out]; exact hlt) h)
          have HYes := Lib.hid (fun h => all_step (p := fun c => withinB c v) (xs := cs) (d := []) (k := k) (by rw [Hn.out]; exact hlt) h hA.out)
          have hxl := HL2.out (cs.getD k []) (by rw [List.getD_eq_getElem?_getD, List.getElem?_eq_getElem (by rw [Hn.out]; exact hlt)]; exact List.getElem_mem _)
          have HW := Lib.hid (within_any A1 c1 (cs.getD k []) v _ hIC hxl)
          generalize cs.getD k [] = C at *
          clear hIC
          obtain ⟨f, hf⟩ : ∃ f, withinB C v = f := ⟨_, rfl⟩
          have HF := Lib.hid hf
          rw [hf] at HW
          clear hf
          cases f with
          | true =>
            go_wp2_with (go_at_call 113; refine HW.out.mono ?_; rintro e w' ⟨rfl, rfl⟩)
            go_round
            case rel => exact ⟨k + 1, by omega, by go_num, HYes.out HF.out⟩
            case measure => simp [intOf]; omega
          | false =>
            go_wp2_with (go_at_call 113; refine HW.out.mono ?_; rintro e w' ⟨rfl, rfl⟩)
            go_ret
            exact ⟨by rw [HE.out, HNo.out HF.out]; rfl, HB.out⟩
        · obtain rfl : k = n := by omega
          have hE := hA.out
          rw [← Hn.out, List.take_length] at hE
          have HE2 := Lib.hid hE
          clear hE
          go_wp2
          go_ret
          exact ⟨by rw [HE.out, HE2.out]; rfl, HB.out⟩

end Go.Proofs.Ytfljggodnnpeiaa.Spr

namespace Go.Proofs.Ytfljggodnnpeiaa.Spr
open Go.RowKit Go.Maps Go.Proofs.Ytfljggodnnpeiaa.Lit
set_option linter.unusedVariables false

theorem own_IC {w : World} {B : Nat} {v : Value} {xs : List Int} (h : w.ownsRow B 3 1 v (ints .i64 xs).length (ints .i64 xs)) : ∃ A c, v = .slice A xs.length c ∧ IC w A xs := by
  have hr : Row w B (fun _ => 0) 0 3 v (ints .i64 xs) := ⟨h, fun _ _ => rfl⟩
  obtain ⟨A, c, hv⟩ := own_slice h
  rw [ints_len] at hv
  refine ⟨A, c, hv, fun k hk => ?_⟩
  obtain ⟨g, c', h1, _, _, _, _, hcell, _⟩ := hr.form (by rw [ints_len]; omega)
  rw [hv] at h1
  injection h1 with hA
  refine ⟨⟨g, 0, none⟩, hA, ?_⟩
  rw [show (⟨g, 0, none⟩ : Addr).add k = ⟨g, k, none⟩ by unfold Addr.add; split <;> simp_all]
  exact hcell k _ (ints_get hk)
theorem own_nil (w : World) (B : Nat) : w.ownsRow B 3 1 (.slice none 0 0) (ints .i64 []).length (ints .i64 []) := ⟨by simp [ints], .inl ⟨rfl, rfl⟩⟩

def Fits (cs : List (List Int)) (F : List Int) : Prop := cs.length * 24 ≤ 140737488355328 ∧ (∀ x ∈ cs, x.length * 8 ≤ 140737488355328) ∧ F.length ≤ 17592186044416

end Go.Proofs.Ytfljggodnnpeiaa.Spr
