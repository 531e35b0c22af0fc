/-
  Several lists of one side grow, one behind the other; then the side is put back into the map.
-/
import Derived.Test.YtgkidjjijgegmaaCKey
namespace Go.Proofs.Ytgkidjjijgegmaa
open Go.RowKit Go.Maps Go.MapKept Go.ChangeMaps

/-- As Gr5, while one side's rows stand apart from what the map has. -/
structure Gr5x (w : World) (base b : Nat) (m : List ((Int × Int) × Value)) (cf : Int × Int → Nat → Value) (f : Int × Int → Nat → List Int) (q0 : Int × Int) : Prop where
  map : MapAt Try.prog 60 encS w b m
  stm : ∃ es clock, w.heap[b]? = some (.map es clock) ∧ Stamped es clock
  low : b < base
  val : ∀ p ∈ m, p.1 ≠ q0 → p.2 = agg5 (cf p.1)
  rows : ∀ q j, j < 5 → w.ownsRow base 2 1 (cf q j) (f q j).length ((f q j).map (Value.int .i64))
  far : ∀ q q' i j, i < 5 → j < 5 → (q ≠ q' ∨ i ≠ j) → (cf q i).ownBlock = none ∨ (cf q i).ownBlock ≠ (cf q' j).ownBlock
  off : ∀ q, q ≠ q0 → (∀ p ∈ m, p.1 ≠ q) → ∀ j, cf q j = .slice none 0 0 ∧ f q j = []
  dom : ∀ p ∈ m, DomS p.1
section
variable {w w' w1 : World} {base b : Nat} {m : List ((Int × Int) × Value)} {cf : Int × Int → Nat → Value} {f f' : Int × Int → Nat → List Int} {q : Int × Int}
theorem Gr5.opened (h : Gr5 w base b m cf f) (q : Int × Int) : Gr5x w base b m cf f q := ⟨h.map, h.stm, h.low, fun p hp _ => h.val p hp, h.rows, h.far, fun q' _ => h.off q', h.dom⟩
theorem Gr5x.kept (h : Gr5x w base b m cf f q) {row : Option Nat} (hg : w.grownBy w' row) (hr : ∀ g, row = some g → g < base ∧ g ≠ b) : Gr5x w' base b m cf f q := by
  have hne : some b ≠ row := fun e => (hr b e.symm).2 rfl
  obtain ⟨es, clock, hb, hs⟩ := h.stm
  have hlt := h.map.lt
  refine ⟨h.map.grown hg hne, ⟨es, clock, (hg.block b hlt hne).trans hb, hs⟩, h.low, h.val, fun q j hj => (h.rows q j hj).kept hg ?_, h.far, h.off, h.dom⟩
  cases hr' : row with
  | none => exact none_or5 _
  | some g => exact .inr (own_not_low (h.rows q j hj) (hr g hr').1)
theorem Gr5x.aside (h : Gr5x w base b m cf f q) {row : Option Nat} (hg : w.grownBy w' row) (hr : ∀ g, row = some g → g ≠ b ∧ ∀ q j, j < 5 → (cf q j).ownBlock ≠ some g) : Gr5x w' base b m cf f q := by
  have hne : some b ≠ row := fun e => (hr b e.symm).1 rfl
  obtain ⟨es, clock, hb, hs⟩ := h.stm
  have hlt := h.map.lt
  refine ⟨h.map.grown hg hne, ⟨es, clock, (hg.block b hlt hne).trans hb, hs⟩, h.low, h.val, fun q j hj => (h.rows q j hj).kept hg ?_, h.far, h.off, h.dom⟩
  cases hr' : row with
  | none => exact none_or5 _
  | some g => exact .inr ((hr g hr').2 q j hj)
theorem Gr5x.below (h : Gr5x w base b m cf f q) (hb : Below w.heap.size w w') : Gr5x w' base b m cf f q :=
  h.kept ⟨hb.os, hb.tape, hb.output, hb.size, fun k hk _ => hb.block k hk⟩ (row := none) (fun g hg => by cases hg)
/-- One of the side's rows has grown. -/
theorem Gr5x.grow (h : Gr5x w base b m cf f q) {j : Nat} (hj : j < 5) (hg : w.grownBy w1 (cf q j).ownBlock) {v' : Value} {ys : List Int} (hown : w1.ownsRow base 2 1 v' ys.length (ys.map (Value.int .i64)))
    (hloc : v'.ownBlock = (cf q j).ownBlock ∨ ∃ g, v'.ownBlock = some g ∧ w.heap.size ≤ g) : Gr5x w1 base b m (upd cf q j v') (upd f q j ys) q := by
  have hsl := h.rows q j hj
  have hnb : some b ≠ (cf q j).ownBlock := fun e => own_not_low hsl h.low e.symm
  obtain ⟨es, clock, hb, hs⟩ := h.stm
  have hlt := h.map.lt
  have same : ∀ q' i, ¬ (q' = q ∧ i = j) → upd cf q j v' q' i = cf q' i := fun q' i hne => if_neg hne
  have samef : ∀ q' i, ¬ (q' = q ∧ i = j) → upd f q j ys q' i = f q' i := fun q' i hne => if_neg hne
  have at1 : upd cf q j v' q j = v' := if_pos ⟨rfl, rfl⟩
  have at2 : upd f q j ys q j = ys := if_pos ⟨rfl, rfl⟩
  have apart : ∀ q' i, i < 5 → ¬ (q' = q ∧ i = j) → (cf q' i).ownBlock = none ∨ (cf q' i).ownBlock ≠ (cf q j).ownBlock := fun q' i hi hne => h.far q' q i j hi hj (by
    by_cases e : q' = q
    · exact .inr fun e2 => hne ⟨e, e2⟩
    · exact .inl e)
  have apart' : ∀ q' i, i < 5 → ¬ (q' = q ∧ i = j) → (cf q' i).ownBlock = none ∨ (cf q' i).ownBlock ≠ v'.ownBlock := by
    intro q' i hi hne
    rcases hloc with e | ⟨g, e, hge⟩
    · rw [e]; exact apart q' i hi hne
    · cases hx : (cf q' i).ownBlock with
      | none => exact .inl rfl
      | some gx =>
        refine .inr fun e' => ?_
        have := ((h.rows q' i hi).lt gx hx).2
        rw [e] at e'
        cases e'
        omega
  refine ⟨h.map.grown hg hnb, ⟨es, clock, (hg.block b hlt hnb).trans hb, hs⟩, h.low, fun p hp hne => ?_, fun q' i hi => ?_, fun q1 q2 i i' hi hi' hne => ?_, fun q' hq' hk i => ?_, h.dom⟩
  · rw [h.val p hp hne]
    unfold agg5
    rw [same p.1 0 (fun e => hne e.1), same p.1 1 (fun e => hne e.1), same p.1 2 (fun e => hne e.1), same p.1 3 (fun e => hne e.1), same p.1 4 (fun e => hne e.1)]
  · by_cases c : q' = q ∧ i = j
    · obtain ⟨rfl, rfl⟩ := c
      rw [at1, at2]
      exact hown
    · rw [same q' i c, samef q' i c]
      exact (h.rows q' i hi).kept hg (apart q' i hi c)
  · by_cases c1 : q1 = q ∧ i = j
    · by_cases c2 : q2 = q ∧ i' = j
      · exact absurd hne (by rintro (h1 | h1); exact h1 (c1.1.trans c2.1.symm); exact h1 (c1.2.trans c2.2.symm))
      · obtain ⟨rfl, rfl⟩ := c1
        rw [at1, same q2 i' c2]
        rcases apart' q2 i' hi' c2 with e | e
        · cases hv : v'.ownBlock with
          | none => exact .inl rfl
          | some g => exact .inr (by rw [e]; simp)
        · exact .inr fun e' => e e'.symm
    · rw [same q1 i c1]
      by_cases c2 : q2 = q ∧ i' = j
      · obtain ⟨rfl, rfl⟩ := c2
        rw [at1]
        exact apart' q1 i hi c1
      · rw [same q2 i' c2]
        exact h.far q1 q2 i i' hi hi' hne
  · have h0 := h.off q' hq' hk i
    rw [same q' i (fun e => hq' e.1), samef q' i (fun e => hq' e.1)]
    exact h0
theorem Gr5x.congr (h : Gr5x w base b m cf f q) (e : ∀ q' j, j < 5 → f q' j = f' q' j) (e' : ∀ q' j, ¬ j < 5 → f' q' j = []) (he : ∀ q' j, ¬ j < 5 → f q' j = []) : Gr5x w base b m cf f' q := by
  have : f = f' := by
    funext q' j
    by_cases hj : j < 5
    · exact e q' j hj
    · rw [e' q' j hj, he q' j hj]
  rw [← this]
  exact h
/-- The side is put back. -/
theorem Gr5x.put (h : Gr5x w base b m cf f q) (hq : DomS q) :
    ∃ w2, (Instr.mapUpdate mapS (.map (some b)) (encS q) (agg5 (cf q))).run Try.prog w = .ok () w2 ∧ Gr5 w2 base b (putM q (agg5 (cf q)) m) cf f ∧ w.grownBy w2 (some b) := by
  obtain ⟨w2, hrun, hM, hg2, hst⟩ := storeS_stm h.map h.stm h.dom hq (agg5 (cf q))
  refine ⟨w2, hrun, ⟨hM, hst, h.low, fun p hp => ?_, fun q' i hi => (h.rows q' i hi).kept hg2 (.inr (own_not_low (h.rows q' i hi) h.low)), h.far, fun q' hk i => ?_, fun p hp => ?_⟩, hg2⟩
  · rcases putS_mem h.map.apart hp with rfl | ⟨hp, hne⟩
    · rfl
    · exact h.val p hp hne
  · have hkq : q' ≠ q := fun e => hk _ (putS_new m) e.symm
    exact h.off q' hkq (fun p hp e => by
      obtain ⟨u, hu⟩ := putS_mono (q := q) (v := agg5 (cf q)) hp
      exact hk _ hu e) i
  · rcases putS_mem h.map.apart hp with rfl | ⟨hp, _⟩
    · exact hq
    · exact h.dom p hp
end
end Go.Proofs.Ytgkidjjijgegmaa
