/-
  How an argument that is a slice of structs of numbers, or a slice of numbers, is opened.
-/
import Derived.Test.YtikcodnmlenpeaaDoorFrame
namespace Go.Proofs.YtikcodnmlenpeaaDoor
open Go.ChangeShapes Go.WideShapes Go.ChangeAt Go.RowKit Go.Joins Go.Deep

theorem flat_inv {α : Type} (f : α → List Value) (n : Nat) (hf : ∀ a, (f a).length = n) : ∀ (l : List α) (J : Nat) (u : Value), (l.flatMap f)[J]? = some u → ∃ (k : Nat) (hk : k < l.length) (j : Nat), J = k * n + j ∧ (f l[k])[j]? = some u
  | [], J, u, h => by simp at h
  | a :: l, J, u, h => by
    rw [List.flatMap_cons] at h
    by_cases hJ : J < n
    · rw [List.getElem?_append_left (by rw [hf]; exact hJ)] at h
      exact ⟨0, by simp, J, by simp, h⟩
    · rw [List.getElem?_append_right (by rw [hf]; omega), hf] at h
      obtain ⟨k, hk, j, e, hj⟩ := flat_inv f n hf l _ u h
      refine ⟨k + 1, by simpa using hk, j, ?_, hj⟩
      rw [Nat.succ_mul]; omega

theorem addr_of_cell {w : World} {a : Addr} {v : Value} (h : w.cell? a = some v) : a = ⟨a.block, a.off, none⟩ ∧ a.block < w.heap.size := by
  obtain ⟨b, o, s⟩ := a
  unfold World.cell? at h
  cases hb : w.heap[b]? with
  | none => simp [hb] at h
  | some ob =>
    refine ⟨?_, (Array.getElem?_eq_some_iff.1 hb).1⟩
    cases ob <;> simp [hb] at h
    cases s with
    | none => rfl
    | some x => simp at h

theorem add_off (b o n : Nat) : (⟨b, o, none⟩ : Addr).add n = ⟨b, o + n, none⟩ := by
  unfold Addr.add; split <;> simp_all

section
variable {H : Type} {enc : TypeId × Value → H} {P : Program} {w : World}
/-- A slice of structs whose fields are ints: its rows of numbers. -/
theorem open_rows {t e : TypeId} {fs : Array Field} {r : Reach} {b0 : Nat} {v : Value} {d : DataW H} {p : List MemPlace} (ht : P.underlying t = some (.slice e)) (he : P.underlying e = some (.struct fs)) (hone : oneCellFields P fs = true) (hC : P.cellsOf e = fs.size)
    (hint : ∀ (j : Nat) (f : Field), fs[j]? = some f → P.underlying f.type = some (.int .i64)) (h0 : 0 < fs.size)
    (hv : Value.okWide P w r b0 t v) (h : DataW.Trod enc P w 0 (fun _ => true) true t v d p) :
    ∃ (A : Option Addr) (c : Nat) (rows : List (List Int)), v = .slice A rows.length c ∧ rows.length ≤ maxLen ∧ (∀ x ∈ rows, x.length = fs.size ∧ ∀ y ∈ x, (Lit.int .i64 y).wf = true) ∧ Seg w w.heap.size A (rows.flatMap (·.map (Value.int .i64))) := by
  obtain ⟨A, len, cap, rfl⟩ := okWide_slice ht hv
  obtain ⟨fuel, hf⟩ := h
  rcases open_slice ht hf with ⟨hcs, _⟩ | ⟨a, len', cap', m, n, D, Pl, hcs, hb, hl, hm, hmm, hx, hi⟩
  · simp [Value.cells] at hcs
    obtain ⟨rfl, rfl, rfl⟩ := hcs
    exact ⟨none, 0, [], rfl, by simp, by simp, Seg.nil⟩
  · simp [Value.cells] at hcs
    obtain ⟨rfl, rfl, rfl⟩ := hcs
    simp only [if_true] at hmm
    subst hmm
    have hrow : ∀ i, ∃ x : List Int, i < len → x.length = fs.size ∧ (∀ y ∈ x, (Lit.int .i64 y).wf = true) ∧ ∀ j y, x[j]? = some y → w.cell? (a.add (i * fs.size + j)) = some (.int .i64 y) := by
      intro i
      by_cases hil : i < len
      · obtain ⟨cs', hc, ht'⟩ := hi i (by omega)
        rw [hC] at hc
        obtain ⟨ys, n', hn', hy, hlen, hyl, hfl⟩ := DataW.trod_struct he ht'
        obtain ⟨_, hcl, hat⟩ := World.cells?_some hc
        have hnum : ∀ j, ∃ y : Int, j < fs.size → (Lit.int .i64 y).wf = true ∧ w.cell? ((a.add (i * fs.size)).add j) = some (.int .i64 y) := by
          intro j
          by_cases hj : j < fs.size
          · have hfj : fs[j]? = some fs[j] := by simp [hj]
            obtain ⟨ho, hk⟩ := hone_of hone j _ hfj
            have h1 := hfl j _ hfj
            rw [ho, hk] at h1
            have hone' : (cs'.drop j).take 1 = [cs'[j]'(by omega)] := by
              rw [List.drop_eq_getElem_cons (by omega)]
              rfl
            rw [hone'] at h1
            have hys : ys[j]? = some (ys[j]'(by omega)) := List.getElem?_eq_getElem (by omega)
            rw [hys] at h1
            obtain ⟨y, e1, _, wy⟩ := DataW.trod_int (hint j _ hfj) h1
            refine ⟨y, fun _ => ⟨wy, ?_⟩⟩
            rw [hat j hj, List.getElem?_eq_getElem (by omega)]
            simp only [List.cons.injEq, and_true] at e1
            rw [e1]
          · exact ⟨0, fun h => absurd h hj⟩
        obtain ⟨g, hg⟩ := Classical.skolem.1 hnum
        refine ⟨(List.range fs.size).map g, fun _ => ⟨by simp, ?_, ?_⟩⟩
        · intro y hy
          obtain ⟨j, hj, rfl⟩ := List.mem_map.1 hy
          exact (hg j (List.mem_range.1 hj)).1
        · intro j y hy
          rw [List.getElem?_map] at hy
          have hj : j < fs.size := by
            rcases Nat.lt_or_ge j fs.size with h | h
            · exact h
            · rw [List.getElem?_eq_none (by simpa using h)] at hy; cases hy
          rw [List.getElem?_range hj] at hy
          simp at hy
          subst hy
          rw [← addr_add]
          exact (hg j hj).2
      · exact ⟨[], fun h => absurd h hil⟩
    obtain ⟨g, hg⟩ := Classical.skolem.1 hrow
    have hrl : ((List.range len).map g).length = len := by simp
    refine ⟨some a, _, (List.range len).map g, by rw [hrl], by rw [hrl]; omega, ?_, ?_⟩
    · intro x hx
      obtain ⟨i, hi', rfl⟩ := List.mem_map.1 hx
      obtain ⟨h1, h2, _⟩ := hg i (List.mem_range.1 hi')
      exact ⟨h1, h2⟩
    · intro J u hu
      have hu' : ((List.range len).flatMap (fun i => (g i).map (Value.int .i64)))[J]? = some u := by
        rw [List.flatMap_map] at hu
        exact hu
      have key : ∀ i, i < len → ∀ j u, ((g i).map (Value.int .i64))[j]? = some u → w.cell? (a.add (i * fs.size + j)) = some u := by
        intro i hil j u hj
        rw [List.getElem?_map] at hj
        cases hq : (g i)[j]? with
        | none => simp [hq] at hj
        | some y =>
          simp [hq] at hj
          subst hj
          exact (hg i hil).2.2 j y hq
      have hpad : ∀ i, (if i < len then (g i).map (Value.int .i64) else List.replicate fs.size (Value.int .i64 0)).length = fs.size := by
        intro i
        split
        · rename_i hil; simp [(hg i hil).1]
        · simp
      have hu2 : ((List.range len).flatMap (fun i => if i < len then (g i).map (Value.int .i64) else List.replicate fs.size (Value.int .i64 0)))[J]? = some u := by
        have e : (List.range len).flatMap (fun i => if i < len then (g i).map (Value.int .i64) else List.replicate fs.size (Value.int .i64 0)) = (List.range len).flatMap (fun i => (g i).map (Value.int .i64)) := by
          rw [List.flatMap_def, List.flatMap_def]
          congr 1
          exact List.map_congr_left fun i hi => by rw [if_pos (List.mem_range.1 hi)]
        rw [e]
        exact hu'
      obtain ⟨k, hk, j, rfl, hj⟩ := flat_inv _ fs.size hpad _ J u hu2
      have hkl : k < len := by simpa using hk
      have ek : (List.range len)[k] = k := by simp
      rw [ek, if_pos hkl] at hj
      have hc := key k hkl j u hj
      obtain ⟨x, hx0⟩ : ∃ x, ((g 0).map (Value.int .i64))[0]? = some x := by
        have hl0 := (hg 0 (by omega)).1
        exact ⟨_, List.getElem?_eq_getElem (by simp [hl0]; exact h0)⟩
      have hc0 := key 0 (by omega) 0 x hx0
      have ea : a.add (0 * fs.size + 0) = a := by simp [Addr.add]
      rw [ea] at hc0
      obtain ⟨e1, e2⟩ := addr_of_cell hc0
      refine ⟨a.block, a.off, by rw [← e1], e2, ?_⟩
      rw [← add_off, ← e1]
      exact hc
end
end Go.Proofs.YtikcodnmlenpeaaDoor
