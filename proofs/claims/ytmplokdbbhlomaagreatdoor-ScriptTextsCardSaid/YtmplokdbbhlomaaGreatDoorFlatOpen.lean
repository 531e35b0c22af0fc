/-
  How an argument that is a slice of structs with structs inside is opened.
-/
import Derived.Test.YtmplokdbbhlomaaGreatDoorOpenC
namespace Go.Proofs.YtmplokdbbhlomaaGreatDoor
open Go.ChangeShapes Go.WideShapes Go.ChangeAt Go.RowKit Go.Joins Go.Deep

section
variable {H : Type} {enc : TypeId × Value → H} {P : Program} {w : World}
/-- Cells that read as a value of a type. -/
def ReadsL (enc : TypeId × Value → H) (P : Program) (w : World) (t : TypeId) (cs : List Value) : Prop := ∃ n x, DataW.trod enc P w 0 (fun _ => true) true n t cs = some x
theorem ReadsL.one {t : TypeId} {v : Value} (h : ReadsL enc P w t [v]) : Reads enc P w t v := h
theorem ReadsL.fields {t : TypeId} {fs : Array Field} {cs : List Value} (ht : P.underlying t = some (.struct fs)) (h : ReadsL enc P w t cs) :
    ∀ (i : Nat) (f : Field), fs[i]? = some f → ReadsL enc P w f.type ((cs.drop f.offset).take (P.cellsOf f.type)) := by
  obtain ⟨fuel, x, h⟩ := h
  obtain ⟨xs, n, rfl, rfl, hl, hxl, hfl⟩ := DataW.trod_struct ht h
  intro i f hf
  have hi : i < fs.size := (Array.getElem?_eq_some_iff.1 hf).1
  have h1 := hfl i f hf
  rw [List.getElem?_eq_getElem (show i < xs.length by omega)] at h1
  exact ⟨n, _, h1⟩
/-- A slice, row by row, each row with its reading. -/
theorem open_flat {t e : TypeId} {N : Nat} {v : Value} (ht : P.underlying t = some (.slice e)) (hC : P.cellsOf e = N) (h0 : 0 < N)
    (h : Reads enc P w t v) :
    ∃ (A : Option Addr) (c : Nat) (rows : List (List Value)), v = .slice A rows.length c ∧ rows.length ≤ c ∧ c ≤ maxLen ∧ (∀ x ∈ rows, x.length = N ∧ ReadsL enc P w e x) ∧ Seg w w.heap.size A (rows.flatMap id) := by
  obtain ⟨fuel, x, hf⟩ := h
  rcases open_slice ht hf with ⟨hcs, _⟩ | ⟨a, len, cap, m, n, D, Pl, hcs, hb, hl, hm, hmm, hx, hi⟩
  · simp at hcs
    subst hcs
    exact ⟨none, 0, [], rfl, by simp, by simp, by simp, Seg.nil⟩
  · simp at hcs
    subst hcs
    simp only [if_true] at hmm
    subst hmm
    have hrow : ∀ i, ∃ x : List Value, i < len → (x.length = N ∧ ReadsL enc P w e x) ∧ ∀ j y, x[j]? = some y → w.cell? (a.add (i * N + j)) = some y := by
      intro i
      by_cases hil : i < len
      · obtain ⟨cs', hc, ht'⟩ := hi i (by omega)
        rw [hC] at hc
        obtain ⟨_, hcl, hat⟩ := World.cells?_some hc
        refine ⟨cs', fun _ => ⟨⟨hcl, ⟨_, _, ht'⟩⟩, ?_⟩⟩
        intro j y hy
        have hjl : j < cs'.length := (List.getElem?_eq_some_iff.1 hy).1
        rw [← addr_add, hat j (by omega)]
        exact hy
      · exact ⟨[], fun h => absurd h hil⟩
    obtain ⟨g, hg⟩ := Classical.skolem.1 hrow
    have hrl : ((List.range len).map g).length = len := by simp
    refine ⟨some a, _, (List.range len).map g, by rw [hrl], by rw [hrl]; exact hl, hm, ?_, ?_⟩
    · intro x hx
      obtain ⟨i, hi', rfl⟩ := List.mem_map.1 hx
      exact (hg i (List.mem_range.1 hi')).1
    · intro J u hu
      have hu' : ((List.range len).flatMap g)[J]? = some u := by
        rw [List.flatMap_map] at hu
        exact hu
      have hpad : ∀ i, (if i < len then g i else List.replicate N (Value.int .i64 0)).length = N := by
        intro i
        split
        · rename_i hil; exact (hg i hil).1.1
        · simp
      have hu2 : ((List.range len).flatMap (fun i => if i < len then g i else List.replicate N (Value.int .i64 0)))[J]? = some u := by
        have e : (List.range len).flatMap (fun i => if i < len then g i else List.replicate N (Value.int .i64 0)) = (List.range len).flatMap g := by
          rw [List.flatMap_def, List.flatMap_def]
          congr 1
          exact List.map_congr_left fun i hi => by rw [if_pos (List.mem_range.1 hi)]
        rw [e]
        exact hu'
      obtain ⟨k, hk, j, rfl, hj⟩ := flat_inv _ N hpad _ J u hu2
      have hkl : k < len := by simpa using hk
      have ek : (List.range len)[k] = k := by simp
      rw [ek, if_pos hkl] at hj
      have hc := (hg k hkl).2 j u hj
      obtain ⟨x, hx0⟩ : ∃ x, (g 0)[0]? = some x := by
        have hl0 := (hg 0 (by omega)).1.1
        exact ⟨_, List.getElem?_eq_getElem (by rw [hl0]; exact h0)⟩
      have hc0 := (hg 0 (by omega)).2 0 x hx0
      have ea : a.add (0 * N + 0) = a := by simp [Addr.add]
      rw [ea] at hc0
      obtain ⟨e1, e2⟩ := addr_of_cell hc0
      refine ⟨a.block, a.off, by rw [← e1], e2, ?_⟩
      rw [← add_off, ← e1]
      exact hc
end
end Go.Proofs.YtmplokdbbhlomaaGreatDoor
