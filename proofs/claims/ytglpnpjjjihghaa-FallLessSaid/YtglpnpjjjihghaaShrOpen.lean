/-
  How arguments that are lists of numbers are opened.
-/
import Derived.Test.YtglpnpjjjihghaaOpenC
namespace Go.Proofs.Ytglpnpjjjihghaa
open Go.ChangeShapes Go.WideShapes Go.ChangeAt Go.RowKit Go.Joins Go.Deep

section
variable {H : Type} {enc : TypeId × Value → H} {w : World}
theorem open_intlist {P : Program} {t e : TypeId} {v : Value} (ht : P.underlying t = some (.slice e)) (he : P.underlying e = some (.int .i64)) (hc : P.cellsOf e = 1) (h : Reads enc P w t v) :
    ∃ (A : Option Addr) (c : Nat) (zs : List Int), v = .slice A zs.length c ∧ zs.length ≤ c ∧ c ≤ maxLen ∧ (∀ x ∈ zs, I64 x) ∧ Seg w w.heap.size A (zs.map (Value.int .i64)) := by
  obtain ⟨fuel, x, hf⟩ := h
  rcases open_slice1 ht hc hf with ⟨hcs, _⟩ | ⟨a, len, cap, m, n, V, D, Pl, hcs, hb, hl, hm, hmm, hx, hi⟩
  · simp at hcs
    subst hcs
    exact ⟨none, 0, [], rfl, by simp, by simp, by simp, Seg.nil⟩
  · simp at hcs
    subst hcs
    simp only [if_true] at hmm
    subst hmm
    have hnum : ∀ i, ∃ y : Int, i < len → I64 y ∧ w.cell? (a.add i) = some (.int .i64 y) := by
      intro i
      by_cases hil : i < len
      · obtain ⟨h1, h2⟩ := hi i (by omega)
        obtain ⟨y, e1, _, wy⟩ := DataW.trod_int he h2
        simp only [List.cons.injEq, and_true] at e1
        exact ⟨y, fun _ => ⟨I64_of_wf wy, by rw [h1, e1]⟩⟩
      · exact ⟨0, fun h => absurd h hil⟩
    obtain ⟨g, hg⟩ := Classical.skolem.1 hnum
    have hrl : ((List.range len).map g).length = len := by simp
    refine ⟨some a, _, (List.range len).map g, by rw [hrl], by rw [hrl]; exact hl, hm, ?_, ?_⟩
    · intro y hy
      obtain ⟨i, hi', rfl⟩ := List.mem_map.1 hy
      exact (hg i (List.mem_range.1 hi')).1
    · intro J u hu
      rw [List.getElem?_map, List.getElem?_map] at hu
      have hJ : J < len := by
        rcases Nat.lt_or_ge J len with h | h
        · exact h
        · rw [List.getElem?_eq_none (by simpa using h)] at hu; cases hu
      rw [List.getElem?_range hJ] at hu
      simp at hu
      subst hu
      have hc := (hg J hJ).2
      obtain ⟨e1, e2⟩ := addr_of_cell (hg 0 (by omega)).2
      have ea : a.add 0 = a := by simp [Addr.add]
      rw [ea] at e1 e2
      refine ⟨a.block, a.off, by rw [← e1], e2, ?_⟩
      rw [← add_off, ← e1]
      exact hc
end
end Go.Proofs.Ytglpnpjjjihghaa
