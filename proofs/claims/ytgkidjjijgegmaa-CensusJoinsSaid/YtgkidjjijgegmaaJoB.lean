/-
  What census.Join keeps while it goes on: words for memory, and plain steps.
-/
import Derived.Test.YtgkidjjijgegmaaCKeyX
import Derived.Test.YtgkidjjijgegmaaCJnLaw
import Derived.Test.YtgkidjjijgegmaaCnGrow
import Derived.Test.YtgkidjjijgegmaaCW7
namespace Go.Proofs.Ytgkidjjijgegmaa
open Go.RowKit Go.Maps Go.MapKept Go.ChangeMaps

/-- The blocks of census.Join: both censuses, the answer, and the census that is made, whose kinds are a row of one's own. -/
structure JnI (w : World) (ca cb : Array Value) (oc : Int) (v : Value) (xs : List Int) (W : World) : Prop where
  b : Below w.heap.size w W
  sz : w.heap.size + 4 ≤ W.heap.size
  a : ∀ j, W.cell? ⟨w.heap.size, j, none⟩ = ca[j]?
  bb : ∀ j, W.cell? ⟨w.heap.size + 1, j, none⟩ = cb[j]?
  r0 : W.cell? ⟨w.heap.size + 2, 0, none⟩ = some (.slice none 0 0)
  r1 : W.cell? ⟨w.heap.size + 2, 1, none⟩ = some (.int .i64 0)
  r2 : W.cell? ⟨w.heap.size + 2, 2, none⟩ = some (.slice none 0 0)
  rf : ∀ j, W.frozen? ⟨w.heap.size + 2, j, none⟩ = false
  c0 : W.cell? ⟨w.heap.size + 3, 0, none⟩ = some v
  c1 : W.cell? ⟨w.heap.size + 3, 1, none⟩ = some (.int .i64 oc)
  c2 : W.cell? ⟨w.heap.size + 3, 2, none⟩ = some (.slice none 0 0)
  cf : ∀ j, W.frozen? ⟨w.heap.size + 3, j, none⟩ = false
  own : W.ownsRow (w.heap.size + 4) 3 1 v xs.length (xs.map (Value.int .i64))
section
variable {w W W' : World} {ca cb : Array Value} {oc : Int} {v : Value} {xs : List Int}
theorem JnI.kept (h : JnI w ca cb oc v xs W) {row : Option Nat} (hg : W.grownBy W' row) (hr : ∀ g, row = some g → w.heap.size + 4 ≤ g ∧ v.ownBlock ≠ some g) : JnI w ca cb oc v xs W' := by
  have hs := h.sz
  have hc : ∀ b, b < w.heap.size + 4 → W'.heap[b]? = W.heap[b]? := fun b hb => hg.block b (by omega) (fun e => by have := (hr b e.symm).1; omega)
  have hcell : ∀ b j, b < w.heap.size + 4 → W'.cell? ⟨b, j, none⟩ = W.cell? ⟨b, j, none⟩ := fun b j hb => World.cell?_of_block (a := ⟨b, j, none⟩) (hc b hb)
  have hfr : ∀ b j, b < w.heap.size + 4 → W'.frozen? ⟨b, j, none⟩ = W.frozen? ⟨b, j, none⟩ := fun b j hb => by unfold World.frozen?; rw [hc b hb]
  refine ⟨h.b.grown hg h.b.size (fun k hk => by have := (hr k hk).1; omega), Nat.le_trans hs hg.size, fun j => (hcell _ _ (by omega)).trans (h.a j), fun j => (hcell _ _ (by omega)).trans (h.bb j), (hcell _ _ (by omega)).trans h.r0, (hcell _ _ (by omega)).trans h.r1, (hcell _ _ (by omega)).trans h.r2, fun j => (hfr _ _ (by omega)).trans (h.rf j), (hcell _ _ (by omega)).trans h.c0, (hcell _ _ (by omega)).trans h.c1, (hcell _ _ (by omega)).trans h.c2, fun j => (hfr _ _ (by omega)).trans (h.cf j), h.own.kept hg ?_⟩
  cases hr' : row with
  | none => exact none_or5 _
  | some g => exact .inr (hr g hr').2
theorem JnI.below (h : JnI w ca cb oc v xs W) (hb : Below W.heap.size W W') : JnI w ca cb oc v xs W' :=
  h.kept ⟨hb.os, hb.tape, hb.output, hb.size, fun k hk _ => hb.block k hk⟩ (row := none) (fun g hg => by cases hg)
/-- Another kind has been appended. -/
theorem JnI.put (h : JnI w ca cb oc v xs W) (hg : W.grownBy W' v.ownBlock) {v' : Value} {ys : List Int} (hown : W'.ownsRow (w.heap.size + 4) 3 1 v' ys.length (ys.map (Value.int .i64))) : JnI w ca cb oc v' ys (W'.setCell ⟨w.heap.size + 3, 0, none⟩ v') := by
  have hs := h.sz
  have hno : ∀ b, b < w.heap.size + 4 → some b ≠ v.ownBlock := fun b hb e => own_not_low h.own (g := b) hb e.symm
  have hc : ∀ b, b < w.heap.size + 4 → W'.heap[b]? = W.heap[b]? := fun b hb => hg.block b (by omega) (hno b hb)
  have hcell : ∀ b j, b < w.heap.size + 4 → W'.cell? ⟨b, j, none⟩ = W.cell? ⟨b, j, none⟩ := fun b j hb => World.cell?_of_block (a := ⟨b, j, none⟩) (hc b hb)
  have hfr : ∀ b j, b < w.heap.size + 4 → W'.frozen? ⟨b, j, none⟩ = W.frozen? ⟨b, j, none⟩ := fun b j hb => by unfold World.frozen?; rw [hc b hb]
  have ot : ∀ b j, b ≠ w.heap.size + 3 ∨ j ≠ 0 → (W'.setCell ⟨w.heap.size + 3, 0, none⟩ v').cell? ⟨b, j, none⟩ = W'.cell? ⟨b, j, none⟩ := fun b j hb => World.cell?_setCell_other _ _ _ _ (fun e => by injection e with e1 e2 _; rcases hb with hb | hb; exact hb e1.symm; exact hb e2.symm)
  have fz : ∀ p : Addr, (W'.setCell ⟨w.heap.size + 3, 0, none⟩ v').frozen? p = W'.frozen? p := fun p => by simp
  have hgs := grown_set W' (w.heap.size + 3) 0 v'
  refine ⟨(h.b.grown hg h.b.size (fun k hk => by have := own_base h.own k hk; omega)).setCell (p := ⟨_, 0, none⟩) (by show w.heap.size ≤ w.heap.size + 3; omega) _, by have := hg.size; simp; omega, fun j => ?_, fun j => ?_, ?_, ?_, ?_, fun j => ?_, ?_, ?_, ?_, fun j => ?_, hown.kept hgs (.inr (own_not_low hown (by omega)))⟩
  · exact ((ot _ _ (.inl (by omega))).trans (hcell _ _ (by omega))).trans (h.a j)
  · exact ((ot _ _ (.inl (by omega))).trans (hcell _ _ (by omega))).trans (h.bb j)
  · exact ((ot _ _ (.inl (by omega))).trans (hcell _ _ (by omega))).trans h.r0
  · exact ((ot _ _ (.inl (by omega))).trans (hcell _ _ (by omega))).trans h.r1
  · exact ((ot _ _ (.inl (by omega))).trans (hcell _ _ (by omega))).trans h.r2
  · exact ((fz _).trans (hfr _ _ (by omega))).trans (h.rf j)
  · exact World.cell?_setCell_same' _ _ _ (by rw [hcell _ _ (by omega), h.c0]; rfl)
  · exact ((ot _ _ (.inr (by omega))).trans (hcell _ _ (by omega))).trans h.c1
  · exact ((ot _ _ (.inr (by omega))).trans (hcell _ _ (by omega))).trans h.c2
  · exact ((fz _).trans (hfr _ _ (by omega))).trans (h.cf j)
end
theorem Gr5.fresh {W : World} {b : Nat} (hM : MapAt Try.prog 60 encS W b []) (hst : ∃ es clock, W.heap[b]? = some (.map es clock) ∧ Stamped es clock) (base : Nat) (hlt : b < base) : Gr5 W base b [] (fun _ _ => .slice none 0 0) (fun _ _ => []) :=
  ⟨hM, hst, hlt, by simp, fun _ _ _ => World.ownsRow_nil _ _ _ _, fun _ _ _ _ _ _ _ => .inl rfl, fun _ _ _ => ⟨rfl, rfl⟩, by simp⟩
/-- A side's rows grow one by one: the tally's box lies at z, the side's at z + 1, the rows' at z + 2. -/
structure JnR (w7 : World) (bm z : Nat) (q : Int × Int) (m : List ((Int × Int) × Value)) (cf : Int × Int → Nat → Value) (f : Int × Int → Nat → List Int) (W : World) : Prop where
  g : Gr5x W w7.heap.size bm m cf f q
  r : w7.grownBy W (some bm)
  s0 : W.cell? ⟨z + 1, 0, none⟩ = some (.int .i64 q.1)
  s1 : W.cell? ⟨z + 1, 1, none⟩ = some (.int .i64 q.2)
  t : ∀ j, j < 5 → W.cell? ⟨z + 2, j, none⟩ = some (cf q j)
  fz : ∀ j, W.frozen? ⟨z + 2, j, none⟩ = false
  lo : bm < z ∧ w7.heap.size ≤ z
  sz : z + 3 ≤ W.heap.size
  off : ∀ q' j, j < 5 → ∀ g, (cf q' j).ownBlock = some g → g < z ∨ z + 3 ≤ g
section
variable {w7 wr W W2 : World} {bm z : Nat} {q : Int × Int} {m : List ((Int × Int) × Value)} {cf : Int × Int → Nat → Value} {f : Int × Int → Nat → List Int}
theorem grown_one {w W W' : World} {r r' : Option Nat} (h : w.grownBy W r) (h' : W.grownBy W' r') (hr : ∀ g, r' = some g → w.heap.size ≤ g) : w.grownBy W' r :=
  ⟨h'.os.trans h.os, h'.tape.trans h.tape, h'.output.trans h.output, Nat.le_trans h.size h'.size, fun k hk hne => (h'.block k (Nat.lt_of_lt_of_le hk h.size) (fun e => by have := hr k e.symm; omega)).trans (h.block k hk hne)⟩
theorem grown_by {w W : World} (h : Below w.heap.size w W) (r : Option Nat) : w.grownBy W r := ⟨h.os, h.tape, h.output, h.size, fun k hk _ => h.block k hk⟩
theorem JnR.start (hG : Gr5 wr w7.heap.size bm m cf f) (hr : w7.grownBy wr (some bm)) (q : Int × Int) (t1 t2 t3 : TypeId) (c1 cs : Array Value) (hcs : ∀ j, j < 5 → cs[j]? = some (cf q j)) :
    JnR w7 bm wr.heap.size q m cf f (((wr.alloc (.cells c1 t1)).alloc (.cells #[.int .i64 q.1, .int .i64 q.2] t2)).alloc (.cells cs t3)) := by
  have hB : Below wr.heap.size wr (((wr.alloc (.cells c1 t1)).alloc (.cells #[.int .i64 q.1, .int .i64 q.2] t2)).alloc (.cells cs t3)) := (((Below.refl _ _).alloc (Nat.le_refl _) _).alloc (by simp) _).alloc (by simp <;> omega) _
  have hlow := hG.low
  have hsz := hr.size
  refine ⟨(hG.below hB).opened q, grown_one hr (grown_by hB none) (fun g e => by cases e), ?_, ?_, fun j hj => ?_, fun j => by go_simp, ⟨by omega, by omega⟩, by simp, fun q' j hj g hg => .inl ((hG.rows q' j hj).lt g hg).2⟩
  · rw [cell_old _ _ _ (by simp), cell_new _ _ _ _ (by simp)]; rfl
  · rw [cell_old _ _ _ (by simp), cell_new _ _ _ _ (by simp)]; rfl
  · rw [cell_new _ _ _ _ (by simp)]; exact hcs j hj
theorem JnR.step (h : JnR w7 bm z q m cf f W) {i : Nat} (hi : i < 5) {o : Obj} (hg : (W.alloc o).grownBy W2 (cf q i).ownBlock) {v' : Value} {ys : List Int} (hown : W2.ownsRow w7.heap.size 2 1 v' ys.length (ys.map (Value.int .i64)))
    (hat : v'.ownBlock = (cf q i).ownBlock ∨ v'.ownBlock = some (W.alloc o).heap.size) : JnR w7 bm z q m (upd cf q i v') (upd f q i ys) (W2.setCell ⟨z + 2, i, none⟩ v') := by
  have hB : Below W.heap.size W (W.alloc o) := (Below.refl _ _).alloc (Nat.le_refl _) _
  have hza : (W.alloc o).heap.size = W.heap.size + 1 := by simp
  have hsz := h.sz
  have hlo := h.lo
  have hg2 := hg.size
  have X1 := h.g.below hB
  have X2 := X1.grow hi hg hown (hat.imp id fun e => ⟨_, e, Nat.le_refl _⟩)
  have hoff : ∀ q' j, j < 5 → ∀ g, (upd cf q i v' q' j).ownBlock = some g → g < z ∨ z + 3 ≤ g := by
    intro q' j hj g hgg
    unfold upd at hgg
    split at hgg
    · rcases hat with e | e
      · exact h.off q i hi g (e ▸ hgg)
      · rw [e] at hgg
        injection hgg with hgg
        right
        omega
    · exact h.off q' j hj g hgg
  have hr0 := own_base (h.g.rows q i hi)
  have hne : ∀ b, z ≤ b → b < z + 3 → some b ≠ (cf q i).ownBlock := fun b h1 h2 e => by
    have := h.off q i hi b e.symm
    omega
  have hc : ∀ b j, z ≤ b → b < z + 3 → W2.cell? ⟨b, j, none⟩ = W.cell? ⟨b, j, none⟩ := fun b j h1 h2 =>
    (World.cell?_of_block (a := ⟨b, j, none⟩) (hg.block b (by omega) (hne b h1 h2))).trans (hB.cell (p := ⟨b, j, none⟩) (by show b < _; omega))
  have hf : ∀ j, W2.frozen? ⟨z + 2, j, none⟩ = false := fun j => by
    have h1 : W2.heap[z + 2]? = (W.alloc o).heap[z + 2]? := hg.block (z + 2) (by omega) (hne _ (by omega) (by omega))
    have h2 : W2.frozen? ⟨z + 2, j, none⟩ = (W.alloc o).frozen? ⟨z + 2, j, none⟩ := by unfold World.frozen?; rw [h1]
    rw [h2, hB.frozen (p := ⟨z + 2, j, none⟩) (by show z + 2 < _; omega)]
    exact h.fz j
  have hgs := grown_set W2 (z + 2) i v'
  refine ⟨X2.aside hgs (fun g e => ?_), grown_one (grown_one (grown_one h.r (grown_by hB none) (fun g e => by cases e)) hg hr0) hgs (fun g e => by injection e with e; omega), ?_, ?_, fun j hj => ?_, fun j => ?_, hlo, by simp; omega, hoff⟩
  · injection e with e
    subst e
    exact ⟨by omega, fun q' j hj e' => by have := hoff q' j hj _ e'; omega⟩
  · rw [World.cell?_setCell_other _ _ _ _ (fun e => by injection e with e _ _; omega), hc _ _ (by omega) (by omega)]
    exact h.s0
  · rw [World.cell?_setCell_other _ _ _ _ (fun e => by injection e with e _ _; omega), hc _ _ (by omega) (by omega)]
    exact h.s1
  · unfold upd
    by_cases e : j = i
    · subst e
      rw [if_pos ⟨rfl, rfl⟩]
      exact World.cell?_setCell_same' _ _ _ (by rw [hc _ _ (by omega) (by omega), h.t j hj]; rfl)
    · rw [if_neg (fun e' => e e'.2), World.cell?_setCell_other _ _ _ _ (fun e' => e (by injection e' with _ e' _; exact e'.symm)), hc _ _ (by omega) (by omega)]
      exact h.t j hj
  · rw [World.frozen?_setCell]
    exact hf j
theorem JnR.mid (h : JnR w7 bm z q m cf f W) {i : Nat} (hi : i < 5) {o : Obj} (hg : (W.alloc o).grownBy W2 (cf q i).ownBlock) : W2.cell? ⟨z + 2, i, none⟩ = some (cf q i) ∧ W2.frozen? ⟨z + 2, i, none⟩ = false := by
  have hB : Below W.heap.size W (W.alloc o) := (Below.refl _ _).alloc (Nat.le_refl _) _
  have hza : (W.alloc o).heap.size = W.heap.size + 1 := by simp
  have hsz := h.sz
  have hne : some (z + 2) ≠ (cf q i).ownBlock := fun e => by
    have := h.off q i hi _ e.symm
    omega
  have h1 : W2.heap[z + 2]? = (W.alloc o).heap[z + 2]? := hg.block (z + 2) (by omega) hne
  refine ⟨(World.cell?_of_block (a := ⟨z + 2, i, none⟩) h1).trans ((hB.cell (p := ⟨z + 2, i, none⟩) (by show z + 2 < _; omega)).trans (h.t i hi)), ?_⟩
  have h2 : W2.frozen? ⟨z + 2, i, none⟩ = (W.alloc o).frozen? ⟨z + 2, i, none⟩ := by unfold World.frozen?; rw [h1]
  rw [h2, hB.frozen (p := ⟨z + 2, i, none⟩) (by show z + 2 < _; omega)]
  exact h.fz i
theorem upd_at {α : Type} (f : Int × Int → Nat → α) (q : Int × Int) (j : Nat) (v : α) : upd f q j v q j = v := if_pos ⟨rfl, rfl⟩
theorem upd_off {α : Type} (f : Int × Int → Nat → α) (q : Int × Int) {i j : Nat} (v : α) (h : i ≠ j) : upd f q j v q i = f q i := if_neg (fun e => h e.2)
theorem JnR.done (h : JnR w7 bm z q m cf f W) (hq : DomS q) : ∃ w2, (Instr.mapUpdate mapS (.map (some bm)) (encS q) (agg5 (cf q))).run Try.prog W = .ok () w2 ∧ Gr5 w2 w7.heap.size bm (putM q (agg5 (cf q)) m) cf f ∧ w7.grownBy w2 (some bm) := by
  obtain ⟨w2, hrun, hG, hg⟩ := h.g.put hq
  refine ⟨w2, hrun, hG, ⟨hg.os.trans h.r.os, hg.tape.trans h.r.tape, hg.output.trans h.r.output, Nat.le_trans h.r.size hg.size, fun k hk hne => (hg.block k (Nat.lt_of_lt_of_le hk h.r.size) hne).trans (h.r.block k hk hne)⟩⟩
end
/-- The columns of tallies, five of them. -/
def tc (T : List Tl) (q : Int × Int) (j : Nat) : List Int := if j < 5 then tcol T q j else []
theorem tc_zero (T : List Tl) : tc (T.take 0) = fun _ _ => [] := by
  funext q j
  unfold tc tcol
  simp
theorem tc_len (T : List Tl) (q : Int × Int) (j : Nat) : (tc T q j).length ≤ T.length := by
  unfold tc
  split
  · exact tcol_len T q j
  · simp
theorem tc_I64 {T : List Tl} (h : ∀ t ∈ T, ∀ j, j < 5 → I64 (t.row[j]?.getD 0)) (q : Int × Int) (j : Nat) (hj : j < 5) : ∀ x ∈ tc T q j, I64 x := by
  intro x hx
  unfold tc at hx
  rw [if_pos hj] at hx
  unfold tcol at hx
  obtain ⟨t, ht, rfl⟩ := List.mem_map.1 hx
  exact h t (List.mem_filter.1 ht).1 j hj
/-- The first i columns of a side have grown by one amount each. -/
def gStep (f : Int × Int → Nat → List Int) (q : Int × Int) (row : Nat → Int) (i : Nat) : Int × Int → Nat → List Int := fun q' j => if q' = q ∧ j < i then f q' j ++ [row j] else f q' j
theorem gStep_zero (f : Int × Int → Nat → List Int) (q : Int × Int) (row : Nat → Int) : gStep f q row 0 = f := by
  funext q' j
  unfold gStep
  rw [if_neg (by omega)]
theorem gStep_at (f : Int × Int → Nat → List Int) (q : Int × Int) (row : Nat → Int) (i j : Nat) (h : i ≤ j) : gStep f q row i q j = f q j := by
  unfold gStep
  rw [if_neg (by omega)]
theorem gStep_eq (f : Int × Int → Nat → List Int) (q : Int × Int) (row : Nat → Int) (i : Nat) (q' : Int × Int) (j : Nat) : gStep f q row i q' j = if q' = q ∧ j < i then f q' j ++ [row j] else f q' j := rfl
theorem gStep_succ (f : Int × Int → Nat → List Int) (q : Int × Int) (row : Nat → Int) (i : Nat) : gStep f q row (i + 1) = upd (gStep f q row i) q i (f q i ++ [row i]) := by
  funext q' j
  unfold upd
  rw [gStep_eq, gStep_eq]
  by_cases hq : q' = q
  · subst hq
    by_cases hj : j = i
    · subst hj
      rw [if_pos (c := q' = q' ∧ j < j + 1) ⟨rfl, by omega⟩, if_pos (c := q' = q' ∧ j = j) ⟨rfl, rfl⟩]
    · rw [if_neg (c := q' = q' ∧ j = i) (fun e => hj e.2)]
      by_cases hji : j < i
      · rw [if_pos (c := q' = q' ∧ j < i + 1) ⟨rfl, by omega⟩, if_pos (c := q' = q' ∧ j < i) ⟨rfl, hji⟩]
      · rw [if_neg (c := q' = q' ∧ j < i + 1) (by omega), if_neg (c := q' = q' ∧ j < i) (by omega)]
  · rw [if_neg (c := q' = q ∧ j < i + 1) (fun e => hq e.1), if_neg (c := q' = q ∧ j = i) (fun e => hq e.1), if_neg (c := q' = q ∧ j < i) (fun e => hq e.1)]
theorem tc_eq (T : List Tl) (q : Int × Int) (j : Nat) : tc T q j = if j < 5 then tcol T q j else [] := rfl
theorem tc_succ {T : List Tl} {k : Nat} (hk : k < T.length) : tc (T.take (k + 1)) = gStep (tc (T.take k)) T[k].q (fun j => T[k].row[j]?.getD 0) 5 := by
  funext q j
  rw [gStep_eq, tc_eq, tc_eq]
  by_cases hj : j < 5
  · rw [if_pos hj, if_pos hj, tcol_snoc hk]
    by_cases hq : q = T[k].q
    · rw [if_pos hq, if_pos ⟨hq, hj⟩]
    · rw [if_neg hq, if_neg (fun e => hq e.1)]
  · rw [if_neg hj, if_neg hj, if_neg (fun e => hj e.2)]
theorem okR_congr {g g' : Nat → Int} (h : ∀ j, j < 5 → g j = g' j) : okR g = okR g' := by
  cases hb : okR g' with
  | true => exact okR_good fun j hj => by rw [h j hj]; exact okR_at hb hj
  | false =>
    cases ha : okR g with
    | false => rfl
    | true =>
      have : okR g' = true := okR_good fun j hj => by rw [← h j hj]; exact okR_at ha hj
      rw [this] at hb
      cases hb
/-- What the join's map comes to. -/
theorem join_okR {a b : List Ev} {Ta Tb : List Tl} (ha : TalF (gE a) Ta) (hb : TalF (gE b) Tb) (q : Int × Int) : okR (fun j => sumI (tc (Ta ++ Tb) q j)) = okR (gE (a ++ b) q) := by
  refine okR_congr fun j hj => ?_
  show sumI (tc (Ta ++ Tb) q j) = _
  unfold tc
  rw [if_pos hj, join_sums ha hb q hj]
theorem join_talF {a b : List Ev} {Ta Tb T : List Tl} (ha : TalF (gE a) Ta) (hb : TalF (gE b) Tb) (h : TalF (fun q j => sumI (tc (Ta ++ Tb) q j)) T) : TalF (gE (a ++ b)) T := by
  refine h.congr fun q j hj => ?_
  show sumI (tc (Ta ++ Tb) q j) = _
  unfold tc
  rw [if_pos hj, join_sums ha hb q hj]
/-- The kinds, added one behind the other. -/
def addK (Ka Kb : List Int) : List Int := List.zipWith (· + ·) Ka Kb
theorem addK_snoc {Ka Kb : List Int} {k : Nat} (ha : k < Ka.length) (hb : k < Kb.length) : (addK Ka Kb).take (k + 1) = (addK Ka Kb).take k ++ [Ka[k] + Kb[k]] := by
  unfold addK
  rw [List.take_succ_eq_append_getElem (by simp; omega)]
  simp
theorem addK_len {Ka Kb : List Int} (h : Ka.length = 20) (h' : Kb.length = 20) : (addK Ka Kb).length = 20 := by
  unfold addK
  simp [h, h']
end Go.Proofs.Ytgkidjjijgegmaa
