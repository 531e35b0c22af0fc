/-
  One list of a side grows and is put back: words for memory.
-/
import Derived.Test.YtgkidjjijgegmaaCnDef
namespace Go.Proofs.Ytgkidjjijgegmaa
open Go.RowKit Go.Maps

theorem grown_set (W : World) (b i : Nat) (v : Value) : W.grownBy (W.setCell ⟨b, i, none⟩ v) (some b) := ⟨rfl, rfl, rfl, by simp, fun k _ hk => RowKit.Below.heap_setCell _ _ _ _ (fun e => hk (by rw [e]))⟩
theorem setAll_grown {b : Nat} : ∀ (vs : List Value) (W : World) (i : Nat), W.grownBy (setAll b W i vs) (some b)
  | [], W, _ => ⟨rfl, rfl, rfl, Nat.le_refl _, fun _ _ _ => rfl⟩
  | v :: vs, W, i => by
    have h1 := grown_set W b i v
    have h2 := setAll_grown (b := b) vs (W.setCell ⟨b, i, none⟩ v) (i + 1)
    exact ⟨h2.os.trans h1.os, h2.tape.trans h1.tape, h2.output.trans h1.output, Nat.le_trans h1.size h2.size, fun k hk hne => (h2.block k (Nat.lt_of_lt_of_le hk h1.size) hne).trans (h1.block k hk hne)⟩
theorem three_at {W : World} {b : Nat} {u0 u1 u2 : Value} {n : Nat} (r0 : W.cell? ⟨b, 0, none⟩ = some u0) (r1 : W.cell? ⟨b, 1, none⟩ = some u1) (r2 : W.cell? ⟨b, 2, none⟩ = some u2) (hn : n = 3) : ∀ j, j < n → ∃ u, W.cell? ⟨b, 0 + j, none⟩ = some u := by
  subst hn
  intro j hj
  rw [Nat.zero_add]
  obtain rfl | rfl | rfl : j = 0 ∨ j = 1 ∨ j = 2 := by omega
  · exact ⟨_, r0⟩
  · exact ⟨_, r1⟩
  · exact ⟨_, r2⟩
theorem kindsL_len (l : List Ev) : (kindsL l).length = 20 := by simp [kindsL]
theorem kindsL_at {l : List Ev} {j : Nat} {u : Value} (h : ((kindsL l).map (Value.int .i64))[j]? = some u) : j < 20 ∧ u = .int .i64 (manyE l j) := by
  have hj : j < 20 := by
    have := (List.getElem?_eq_some_iff.1 h).1
    rwa [List.length_map, kindsL_len] at this
  refine ⟨hj, ?_⟩
  rw [List.getElem?_map] at h
  unfold kindsL at h
  rw [List.getElem?_map, List.getElem?_range hj] at h
  simpa using h.symm
/-- A store into a map, at the operation, by its run. -/
theorem wpList_update_run {P : Program} {w w' : World} {ops : Array Oper} {rest : List Oper} {o : Oper} {a : Act} {Q : Exit → Act → World → Prop} (hg : o.guard = none) (t : TypeId) (mo xo vo : Operand) (hop : o.op = Op.mapUpdate t mo xo vo)
    {mv xv vv : Value} (hm : a.eval mo = mv) (hx : a.eval xo = xv) (hv : a.eval vo = vv) (hrun : (Instr.mapUpdate t mv xv vv).run P w = .ok () w') (h : wpList P ops Q rest (a.put o.dst undef) w') : wpList P ops Q (o :: rest) a w := by
  refine wpList_plain hg fun K' hK' => ?_
  unfold Oper.wp
  simp [execOp, hop, hm, hx, hv, hrun, Result.andThen]
  exact hK' _ _ h
section
variable {w W4 W5 Wb w6 : World} {K : Nat → Int} {f : Int × Int → Nat → List Int} {n : Nat} {m : List ((Int × Int) × Value)} {cf : Int × Int → Nat → Value} {q : Int × Int} {j : Nat} {cs : Array Value} {ty : TypeId} {v' : Value} {ys : List Int}
/-- What stands behind the append. -/
structure Grown (W4 w6 : World) (cs : Array Value) (own : Option Nat) : Prop where
  c : ∀ i, w6.cell? ⟨W4.heap.size, i, none⟩ = cs[i]?
  f : ∀ i, w6.frozen? ⟨W4.heap.size, i, none⟩ = false
  o : ∀ b i, b < W4.heap.size → some b ≠ own → w6.cell? ⟨b, i, none⟩ = W4.cell? ⟨b, i, none⟩
  z : W4.heap.size < w6.heap.size
theorem OfI.grown (h : OfI w K f n m cf W4) (hj : j < 5) (e5 : W5 = W4.alloc (.cells cs ty)) (hb : Below W5.heap.size W5 Wb) (hg : Wb.grownBy w6 (cf q j).ownBlock) : Grown W4 w6 cs (cf q j).ownBlock := by
  have hz : W5.heap.size = W4.heap.size + 1 := by rw [e5]; simp
  have hbz := hb.size
  have hne : some W4.heap.size ≠ (cf q j).ownBlock := fun e => by have := ((h.g.rows q j hj).lt _ e.symm).2; omega
  have hblk : w6.heap[W4.heap.size]? = W5.heap[W4.heap.size]? := (hg.block _ (by omega) hne).trans (hb.block _ (by omega))
  refine ⟨fun i => ?_, fun i => ?_, fun b i hb' hne' => ?_, by have := hg.size; omega⟩
  · rw [World.cell?_of_block (a := ⟨W4.heap.size, i, none⟩) hblk, e5]
    exact cell_new _ _ _ i rfl
  · have : w6.frozen? ⟨W4.heap.size, i, none⟩ = W5.frozen? ⟨W4.heap.size, i, none⟩ := by unfold World.frozen?; rw [hblk]
    rw [this, e5]
    go_simp
  · have h1 : w6.heap[b]? = W4.heap[b]? := by
      rw [hg.block b (by omega) hne', hb.block b (by omega), e5]
      exact heap_alloc_old' _ _ hb'
    exact World.cell?_of_block (a := ⟨b, i, none⟩) h1
theorem OfI.step (h : OfI w K f n m cf W4) (hq : DomS q) (hj : j < 5) (e5 : W5 = W4.alloc (.cells cs ty)) (hb : Below W5.heap.size W5 Wb) (hg : Wb.grownBy w6 (cf q j).ownBlock)
    (hown : w6.ownsRow (w.heap.size + 4) 2 1 v' ys.length (ys.map (Value.int .i64))) (hat : v'.ownBlock = (cf q j).ownBlock ∨ v'.ownBlock = some Wb.heap.size) :
    ∃ w8, (Instr.mapUpdate mapS (.map (some (w.heap.size + 3))) (encS q) (agg5 (upd cf q j v' q))).run Try.prog (w6.setCell ⟨W4.heap.size, j, none⟩ v') = .ok () w8 ∧ OfI w K (upd f q j ys) (n + 1) (putM q (agg5 (upd cf q j v' q)) m) (upd cf q j v') w8 := by
  have hz : W5.heap.size = W4.heap.size + 1 := by rw [e5]; simp
  have hbz := hb.size
  have hrow := h.g.rows q j hj
  have hv : v'.ownBlock ≠ some W4.heap.size := by
    rcases hat with e | e
    · rw [e]
      intro e'
      have := (hrow.lt _ e').2
      omega
    · rw [e]
      intro e'
      injection e' with e'
      omega
  have hgs : w6.grownBy (w6.setCell ⟨W4.heap.size, j, none⟩ v') (some W4.heap.size) := ⟨rfl, rfl, rfl, by simp, fun k _ hk => RowKit.Below.heap_setCell _ _ _ _ (fun e => hk (by rw [e]))⟩
  refine h.put hq hj ⟨?_, ?_, ?_, ?_, fun k hk hne => ?_⟩ (hown.kept hgs (.inr hv)) ?_
  · rw [hgs.os, hg.os, hb.os, e5]; rfl
  · rw [hgs.tape, hg.tape, hb.tape, e5]; rfl
  · rw [hgs.output, hg.output, hb.output, e5]; rfl
  · have := hg.size
    simp
    omega
  · rw [hgs.block k (by have := hg.size; omega) (fun e => by injection e with e; omega), hg.block k (by omega) hne, hb.block k (by omega), e5]
    exact heap_alloc_old' _ _ hk
  · rcases hat with e | e
    · exact .inl e
    · exact .inr ⟨_, e, by omega⟩
end
end Go.Proofs.Ytgkidjjijgegmaa
