/-
  A census in plain words: kinds counted, and each side's five columns, of events.
-/
import Derived.Test.YtgkidjjijgegmaaCW4
namespace Go.Proofs.Ytgkidjjijgegmaa
open Go.RowKit

def evRows (l : List Ev) : List Value := l.flatMap Ev.cells
theorem ev_at {w : World} {B : Nat} {A : Option Addr} {l : List Ev} (h : Seg w B A (evRows l)) {k : Nat} (hk : k < l.length) :
    ∃ b o, A = some ⟨b, o, none⟩ ∧ b < B ∧ w.cell? ⟨b, o + k * 5, none⟩ = some (.int .i64 l[k].k) ∧ w.cell? ⟨b, o + k * 5 + 1, none⟩ = some (.int .i64 l[k].m) ∧ w.cell? ⟨b, o + k * 5 + 2, none⟩ = some (.int .i64 l[k].a) ∧ w.cell? ⟨b, o + k * 5 + 3, none⟩ = some (.int .i64 l[k].n) ∧ w.cell? ⟨b, o + k * 5 + 4, none⟩ = some (.int .i64 l[k].o) := by
  obtain ⟨b, o, e, hb, hc⟩ := h.run (i := k * 5) (y := .int .i64 l[k].k) (t := [.int .i64 l[k].m, .int .i64 l[k].a, .int .i64 l[k].n, .int .i64 l[k].o]) (fun j u hu => flat_at Ev.cells 5 (fun _ => rfl) l k hk j u hu)
  exact ⟨b, o, e, hb, hc 0 _ rfl, hc 1 _ rfl, hc 2 _ rfl, hc 3 _ rfl, hc 4 _ rfl⟩
def EvOk (x : Ev) : Prop := I64 x.k ∧ I64 x.m ∧ I64 x.a ∧ I64 x.n ∧ I64 x.o
/-- The kind under which an event is counted. -/
def kc (k : Int) : Int := if k < 1 ∨ 20 ≤ k then 0 else k
def manyE (l : List Ev) (j : Int) : Int := ((l.filter fun x => kc x.k == j).length : Int)
def kindsL (l : List Ev) : List Int := (List.range 20).map fun j : Nat => manyE l (j : Int)
/-- The side for which an event counts. -/
def sideE (x : Ev) : Int × Int := (x.m, if x.k = 19 ∨ x.k = 15 then 0 else x.a)
def ctr (x : Ev) : List Int := if x.k = 6 then lsL x.n else [x.n]
def colF (l : List Ev) (q : Int × Int) (j : Nat) : List Int := l.flatMap fun x => if plJ x.k = some j ∧ sideE x = q then ctr x else []
def gE (l : List Ev) (q : Int × Int) (j : Nat) : Int := sumI (colF l q j)
theorem many_snoc {l : List Ev} {k : Nat} (hk : k < l.length) (j : Int) : manyE (l.take (k + 1)) j = manyE (l.take k) j + if kc l[k].k = j then 1 else 0 := by
  unfold manyE
  rw [List.take_succ_eq_append_getElem hk, List.filter_append, List.length_append]
  by_cases h : kc l[k].k = j
  · simp [h]
  · simp [h]
theorem many_bd (l : List Ev) (j : Int) : 0 ≤ manyE l j ∧ manyE l j ≤ l.length := by
  unfold manyE
  have := List.length_filter_le (fun x : Ev => kc x.k == j) l
  omega
theorem kc_bd (k : Int) : 0 ≤ kc k ∧ kc k < 20 := by unfold kc; split <;> omega
theorem plJ_in {k : Int} {j : Nat} (h : plJ k = some j) : 1 ≤ k ∧ k < 20 := by
  unfold plJ at h
  repeat' split at h
  all_goals first | omega | simp at h
theorem col_snoc {l : List Ev} {k : Nat} (hk : k < l.length) (q : Int × Int) (j : Nat) : colF (l.take (k + 1)) q j = if plJ l[k].k = some j ∧ sideE l[k] = q then colF (l.take k) q j ++ ctr l[k] else colF (l.take k) q j := by
  unfold colF
  rw [List.take_succ_eq_append_getElem hk, List.flatMap_append]
  by_cases h : plJ l[k].k = some j ∧ sideE l[k] = q
  · rw [if_pos h]; simp [h]
  · rw [if_neg h]; simp [h]
theorem col_none {l : List Ev} {k : Nat} (hk : k < l.length) (h : plJ l[k].k = none) : colF (l.take (k + 1)) = colF (l.take k) := by
  funext q j
  rw [col_snoc hk, if_neg (by rw [h]; simp)]
theorem col_some {l : List Ev} {k : Nat} (hk : k < l.length) {j : Nat} (h : plJ l[k].k = some j) : colF (l.take (k + 1)) = upd (colF (l.take k)) (sideE l[k]) j (colF (l.take k) (sideE l[k]) j ++ ctr l[k]) := by
  funext q i
  rw [col_snoc hk]
  unfold upd
  rw [h]
  by_cases e : q = sideE l[k] ∧ i = j
  · obtain ⟨rfl, rfl⟩ := e
    rw [if_pos ⟨rfl, rfl⟩, if_pos ⟨rfl, rfl⟩]
  · rw [if_neg e, if_neg (fun e' => e ⟨e'.2.symm, by simpa using e'.1.symm⟩)]
theorem ctr_len (x : Ev) : (ctr x).length ≤ 2 := by
  unfold ctr
  split
  · exact lsL_len _
  · simp
theorem ctr_I64 {x : Ev} (h : I64 x.n) : ∀ y ∈ ctr x, I64 y := by
  unfold ctr
  split
  · exact lsL_I64 h
  · intro y hy
    simp at hy
    subst hy
    exact h
theorem col_len (l : List Ev) (q : Int × Int) (j : Nat) : (colF l q j).length ≤ 2 * l.length := by
  unfold colF
  induction l with
  | nil => simp
  | cons x l ih =>
    rw [List.flatMap_cons, List.length_append, List.length_cons]
    have := ctr_len x
    split <;> simp at * <;> omega
theorem col_I64 {l : List Ev} (h : ∀ x ∈ l, I64 x.n) (q : Int × Int) (j : Nat) : ∀ y ∈ colF l q j, I64 y := by
  intro y hy
  unfold colF at hy
  obtain ⟨x, hx, hy⟩ := List.mem_flatMap.1 hy
  split at hy
  · exact ctr_I64 (h x hx) y hy
  · simp at hy
theorem side_dom {x : Ev} (h : EvOk x) : DomS (sideE x) := by
  refine ⟨h.2.1, ?_⟩
  unfold sideE
  simp only
  split
  · unfold I64; omega
  · exact h.2.2.1
/-- The blocks of census.Of, once it has gone over these events. -/
structure OfI (w : World) (K : Nat → Int) (f : Int × Int → Nat → List Int) (n : Nat) (m : List ((Int × Int) × Value)) (cf : Int × Int → Nat → Value) (W : World) : Prop where
  b : Below w.heap.size w W
  sz : w.heap.size + 4 ≤ W.heap.size
  r0 : W.cell? ⟨w.heap.size, 0, none⟩ = some (.slice none 0 0)
  r1 : W.cell? ⟨w.heap.size, 1, none⟩ = some (.int .i64 0)
  r2 : W.cell? ⟨w.heap.size, 2, none⟩ = some (.slice none 0 0)
  rf : ∀ j, W.frozen? ⟨w.heap.size, j, none⟩ = false
  k : ∀ j : Nat, j < 20 → W.cell? ⟨w.heap.size + 1, j, none⟩ = some (.int .i64 (K j))
  kf : ∀ j, W.frozen? ⟨w.heap.size + 1, j, none⟩ = false
  c0 : W.cell? ⟨w.heap.size + 2, 0, none⟩ = some (.slice (some ⟨w.heap.size + 1, 0, none⟩) 20 20)
  c1 : W.cell? ⟨w.heap.size + 2, 1, none⟩ = some (.int .i64 0)
  c2 : W.cell? ⟨w.heap.size + 2, 2, none⟩ = some (.slice none 0 0)
  cz : ∀ j, W.frozen? ⟨w.heap.size + 2, j, none⟩ = false
  g : Gr5 W (w.heap.size + 4) (w.heap.size + 3) m cf f
  len : m.length ≤ n
section
variable {w W W' : World} {K K' : Nat → Int} {f f' : Int × Int → Nat → List Int} {n : Nat} {m : List ((Int × Int) × Value)} {cf : Int × Int → Nat → Value}
/-- Behind whatever turns none of its blocks. -/
theorem OfI.kept (h : OfI w K f n m cf W) {row : Option Nat} (hg : W.grownBy W' row) (hr : ∀ g, row = some g → w.heap.size + 4 ≤ g ∧ ∀ q j, j < 5 → (cf q j).ownBlock ≠ some g) : OfI w K f n m cf W' := by
  have hs := h.sz
  have hc : ∀ b, b < w.heap.size + 4 → W'.heap[b]? = W.heap[b]? := fun b hb => hg.block b (by omega) (fun e => by have := (hr b e.symm).1; omega)
  have hcell : ∀ b j, b < w.heap.size + 4 → W'.cell? ⟨b, j, none⟩ = W.cell? ⟨b, j, none⟩ := fun b j hb => World.cell?_of_block (a := ⟨b, j, none⟩) (hc b hb)
  have hfr : ∀ b j, b < w.heap.size + 4 → W'.frozen? ⟨b, j, none⟩ = W.frozen? ⟨b, j, none⟩ := fun b j hb => by unfold World.frozen?; rw [hc b hb]
  refine ⟨h.b.grown hg h.b.size (fun k hk => by have := (hr k hk).1; omega), Nat.le_trans hs hg.size, (hcell _ _ (by omega)).trans h.r0, (hcell _ _ (by omega)).trans h.r1, (hcell _ _ (by omega)).trans h.r2, fun j => (hfr _ _ (by omega)).trans (h.rf j), fun j hj => (hcell _ _ (by omega)).trans (h.k j hj), fun j => (hfr _ _ (by omega)).trans (h.kf j), (hcell _ _ (by omega)).trans h.c0, (hcell _ _ (by omega)).trans h.c1, (hcell _ _ (by omega)).trans h.c2, fun j => (hfr _ _ (by omega)).trans (h.cz j), ?_, h.len⟩
  have hlt := h.g.map.lt
  have hne : some (w.heap.size + 3) ≠ row := fun e => by have := (hr _ e.symm).1; omega
  obtain ⟨es, clock, hb, hst⟩ := h.g.stm
  refine ⟨h.g.map.grown hg hne, ⟨es, clock, (hg.block _ hlt hne).trans hb, hst⟩, h.g.low, h.g.val, fun q j hj => (h.g.rows q j hj).kept hg ?_, h.g.far, h.g.off, h.g.dom⟩
  cases hr' : row with
  | none => exact none_or5 _
  | some g => exact .inr ((hr g hr').2 q j hj)
theorem OfI.below (h : OfI w K f n m cf W) (hb : Below W.heap.size W W') : OfI w K f n m cf W' :=
  h.kept ⟨hb.os, hb.tape, hb.output, hb.size, fun k hk _ => hb.block k hk⟩ (row := none) (fun g hg => by cases hg)
theorem OfI.more (h : OfI w K f n m cf W) : OfI w K f (n + 1) m cf W := ⟨h.b, h.sz, h.r0, h.r1, h.r2, h.rf, h.k, h.kf, h.c0, h.c1, h.c2, h.cz, h.g, Nat.le_succ_of_le h.len⟩
/-- A kind is counted. -/
theorem OfI.kind (h : OfI w K f n m cf W) {i : Nat} (hi : i < 20) (hk : ∀ j : Nat, j < 20 → K' j = K j + if i = j then 1 else 0) : OfI w K' f n m cf (W.setCell ⟨w.heap.size + 1, i, none⟩ (.int .i64 (K i + 1))) := by
  have hs := h.sz
  have ot : ∀ b j, b ≠ w.heap.size + 1 → (W.setCell ⟨w.heap.size + 1, i, none⟩ (.int .i64 (K i + 1))).cell? ⟨b, j, none⟩ = W.cell? ⟨b, j, none⟩ := fun b j hb => World.cell?_setCell_other _ _ _ _ (fun e => hb (by injection e with e _ _; exact e.symm))
  have fz : ∀ p : Addr, (W.setCell ⟨w.heap.size + 1, i, none⟩ (.int .i64 (K i + 1))).frozen? p = W.frozen? p := fun p => by simp
  have hg : W.grownBy (W.setCell ⟨w.heap.size + 1, i, none⟩ (.int .i64 (K i + 1))) (some (w.heap.size + 1)) := ⟨rfl, rfl, rfl, by simp, fun k _ hk => RowKit.Below.heap_setCell _ _ _ _ (fun e => hk (by rw [e]))⟩
  refine ⟨h.b.setCell (p := ⟨_, i, none⟩) (by show w.heap.size ≤ w.heap.size + 1; omega) _, by simpa using hs, (ot _ _ (by omega)).trans h.r0, (ot _ _ (by omega)).trans h.r1, (ot _ _ (by omega)).trans h.r2, fun j => (fz _).trans (h.rf j), fun j hj => ?_, fun j => (fz _).trans (h.kf j), (ot _ _ (by omega)).trans h.c0, (ot _ _ (by omega)).trans h.c1, (ot _ _ (by omega)).trans h.c2, fun j => (fz _).trans (h.cz j), ?_, h.len⟩
  · rw [hk j hj]
    by_cases e : i = j
    · subst e
      rw [if_pos rfl]
      exact World.cell?_setCell_same' _ _ _ (by rw [h.k i hi]; rfl)
    · rw [if_neg e, Int.add_zero]
      rw [World.cell?_setCell_other _ _ _ _ (fun e' => e (by injection e' with _ e' _))]
      exact h.k j hj
  · exact h.g.kept hg (fun g e => by cases e; exact ⟨by omega, by omega⟩)
/-- A row has grown, and the side's five rows are put back. -/
theorem OfI.put (h : OfI w K f n m cf W) {q : Int × Int} (hq : DomS q) {j : Nat} (hj : j < 5) (hg : W.grownBy W' (cf q j).ownBlock) {v' : Value} {ys : List Int} (hown : W'.ownsRow (w.heap.size + 4) 2 1 v' ys.length (ys.map (Value.int .i64)))
    (hloc : v'.ownBlock = (cf q j).ownBlock ∨ ∃ g, v'.ownBlock = some g ∧ W.heap.size ≤ g) :
    ∃ w2, (Instr.mapUpdate mapS (.map (some (w.heap.size + 3))) (encS q) (agg5 (upd cf q j v' q))).run Try.prog W' = .ok () w2 ∧ OfI w K (upd f q j ys) (n + 1) (putM q (agg5 (upd cf q j v' q)) m) (upd cf q j v') w2 := by
  obtain ⟨w2, hrun, hG, hg2⟩ := h.g.put hq hj hg hown hloc
  have hs := h.sz
  have hrow := h.g.rows q j hj
  have n1 : ∀ b, b < w.heap.size + 4 → some b ≠ (cf q j).ownBlock := fun b hb e => own_not_low hrow hb e.symm
  have hc : ∀ b, b < w.heap.size + 3 → w2.heap[b]? = W.heap[b]? := fun b hb => (hg2.block b (by have := hg.size; omega) (fun e => by injection e with e; omega)).trans (hg.block b (by omega) (n1 b (by omega)))
  have hcell : ∀ b j, b < w.heap.size + 3 → w2.cell? ⟨b, j, none⟩ = W.cell? ⟨b, j, none⟩ := fun b j hb => World.cell?_of_block (a := ⟨b, j, none⟩) (hc b hb)
  have hfr : ∀ b j, b < w.heap.size + 3 → w2.frozen? ⟨b, j, none⟩ = W.frozen? ⟨b, j, none⟩ := fun b j hb => by unfold World.frozen?; rw [hc b hb]
  have hB1 := h.b.grown hg h.b.size (fun k hk => by have := (hrow.lt k hk).1; omega)
  have hlen := putS_length (q := q) (v := agg5 (upd cf q j v' q)) m
  exact ⟨w2, hrun, hB1.grown hg2 hB1.size (fun k hk => by cases hk; omega), Nat.le_trans hs (Nat.le_trans hg.size hg2.size), (hcell _ _ (by omega)).trans h.r0, (hcell _ _ (by omega)).trans h.r1, (hcell _ _ (by omega)).trans h.r2, fun j => (hfr _ _ (by omega)).trans (h.rf j), fun j hj => (hcell _ _ (by omega)).trans (h.k j hj), fun j => (hfr _ _ (by omega)).trans (h.kf j), (hcell _ _ (by omega)).trans h.c0, (hcell _ _ (by omega)).trans h.c1, (hcell _ _ (by omega)).trans h.c2, fun j => (hfr _ _ (by omega)).trans (h.cz j), hG, by have := h.len; omega⟩
end
end Go.Proofs.Ytgkidjjijgegmaa
