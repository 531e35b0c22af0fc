/-
  How arguments that are lists of numbers, or of obligations, are opened.
-/
import Derived.Test.YtjgliooeidgehaaOpenC
import Derived.Test.YtjgliooeidgehaaOut4
namespace Go.Proofs.Ytjgliooeidgehaa
open Go.ChangeShapes Go.WideShapes Go.ChangeAt Go.RowKit Go.Joins Go.Deep

section
variable {H : Type} {enc : TypeId × Value → H} {w : World}
theorem open_intlist {P : Program} {t e : TypeId} {v : Value} (ht : P.underlying t = some (.slice e)) (he : P.underlying e = some (.int .i64)) (hc : P.cellsOf e = 1) (h : Reads enc P w t v) :
    ∃ (A : Option Addr) (c : Nat) (zs : List Int), v = .slice A zs.length c ∧ zs.length ≤ c ∧ c ≤ maxLen ∧ (∀ x ∈ zs, I64 x) ∧ SrcAt w A c zs := by
  obtain ⟨fuel, x, hf⟩ := h
  rcases open_slice1 ht hc hf with ⟨hcs, _⟩ | ⟨a, len, cap, m, n, V, D, Pl, hcs, hb, hl, hm, hmm, hx, hi⟩
  · simp at hcs
    subst hcs
    exact ⟨none, 0, [], rfl, by simp, by simp, by simp, ⟨Seg.nil, fun _ => ⟨rfl, rfl⟩⟩⟩
  · simp at hcs
    subst hcs
    simp only [if_true] at hmm
    subst hmm
    have hnum : ∀ i, ∃ y : Int, i < len → I64 y ∧ w.cell? (a.add i) = some (.int .i64 y) := by
      intro i
      by_cases hil : i < len
      · obtain ⟨h1, h2⟩ := hi i (by omega)
        obtain ⟨y, e1, _, wy⟩ := DataW.trod_int he h2
        simp only [List.cons.injEq, and_true] at e1
        exact ⟨y, fun _ => ⟨I64_of_wf wy, by rw [h1, e1]⟩⟩
      · exact ⟨0, fun h => absurd h hil⟩
    obtain ⟨g, hg⟩ := Classical.skolem.1 hnum
    have hrl : ((List.range len).map g).length = len := by simp
    refine ⟨some a, _, (List.range len).map g, by rw [hrl], by rw [hrl]; exact hl, hm, ?_, ⟨?_, fun h => by cases h⟩⟩
    · intro y hy
      obtain ⟨i, hi', rfl⟩ := List.mem_map.1 hy
      exact (hg i (List.mem_range.1 hi')).1
    · intro J u hu
      rw [List.getElem?_map, List.getElem?_map] at hu
      have hJ : J < len := by
        rcases Nat.lt_or_ge J len with h | h
        · exact h
        · rw [List.getElem?_eq_none (by simpa using h)] at hu; cases hu
      rw [List.getElem?_range hJ] at hu
      simp at hu
      subst hu
      have hc := (hg J hJ).2
      obtain ⟨e1, e2⟩ := addr_of_cell (hg 0 (by omega)).2
      have ea : a.add 0 = a := by simp [Addr.add]
      rw [ea] at e1 e2
      refine ⟨a.block, a.off, by rw [← e1], e2, ?_⟩
      rw [← add_off, ← e1]
      exact hc
theorem open_obs {v : Value} (h : Reads enc Try.prog w 22 v) :
    ∃ (A : Option Addr) (c : Nat) (l : List Ob), v = .slice A l.length c ∧ l.length ≤ maxLen ∧ (∀ y ∈ l, I64 y.net ∧ I64 y.done) ∧ Seg w w.heap.size A (obRows l) := by
  obtain ⟨A, c, rows, rfl, hl, hc, hr, hs⟩ := open_cells Try.underlying22 Try.underlying34 (by kernel_rfl) (by kernel_rfl) (by decide) h
  obtain ⟨l, e1, e2, e3⟩ := rows_of Ob.cells (fun y => I64 y.net ∧ I64 y.done) rows fun x hx => by
    have hx := hr x hx
    match x, hx.len with
    | [x0, x1, x2, x3, x4, x5], _ =>
      obtain ⟨x0, rfl, _⟩ := (hx.cell 0 _ _ rfl rfl).int (by kernel_rfl)
      obtain ⟨x1, rfl, _⟩ := (hx.cell 1 _ _ rfl rfl).int (by kernel_rfl)
      obtain ⟨x2, rfl, _⟩ := (hx.cell 2 _ _ rfl rfl).int (by kernel_rfl)
      obtain ⟨x3, rfl, h3⟩ := (hx.cell 3 _ _ rfl rfl).int (by kernel_rfl)
      obtain ⟨x4, rfl, h4⟩ := (hx.cell 4 _ _ rfl rfl).int (by kernel_rfl)
      obtain ⟨x5, rfl, _⟩ := (hx.cell 5 _ _ rfl rfl).int (by kernel_rfl)
      exact ⟨⟨x0, x1, x2, x3, x4, x5⟩, rfl, h3, h4⟩
  rw [e2] at hs
  rw [← e1] at hl ⊢
  exact ⟨A, c, l, rfl, Nat.le_trans hl hc, e3, hs⟩
theorem open_pair {r : Reach} {b0 : Nat} {v : Value} {d : DataW H} {p : List MemPlace} (hv : Value.okWide Try.prog w r b0 24 v)
    (h : DataW.Trod enc Try.prog w 0 (fun _ => true) true 24 v d p) : ∃ x0 x1 : Value, v = .agg #[x0, x1] ∧ Reads enc Try.prog w 23 x0 ∧ Reads enc Try.prog w 23 x1 := by
  simp only [Value.okWide, Try.underlying24] at hv
  obtain ⟨cs, rfl, h2, _⟩ := hv
  obtain ⟨fuel, hf⟩ := h
  obtain ⟨xs, m1, rfl, hx1, hlen, hn2, hel⟩ := DataW.trod_array Try.underlying24 hf
  have c2 : Try.prog.cellsOf 24 = 2 := by kernel_rfl
  have c1 : Try.prog.cellsOf 23 = 1 := by kernel_rfl
  rw [c1] at hel
  obtain ⟨l⟩ := cs
  rw [c2] at hlen
  simp [Value.cells] at hlen
  match l, hlen, xs, hn2 with
  | [a, b], _, [y0, y1], _ =>
    exact ⟨a, b, rfl, ⟨_, _, by simpa [Value.cells] using hel 0 (by decide)⟩, ⟨_, _, by simpa [Value.cells] using hel 1 (by decide)⟩⟩
end
end Go.Proofs.Ytjgliooeidgehaa
