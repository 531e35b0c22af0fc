/-
  How an argument that is a slice of structs of one-cell fields is opened: its rows of cells, each cell with its reading.
-/
import Derived.Test.YtmplokdbbhlomaaGreatDoorFrame
import Derived.Test.YtmplokdbbhlomaaGreatDoorMoneyDef
namespace Go.Proofs.YtmplokdbbhlomaaGreatDoor
open Go.ChangeShapes Go.WideShapes Go.ChangeAt Go.RowKit Go.Joins Go.Deep

theorem flat_inv {α : Type} (f : α → List Value) (n : Nat) (hf : ∀ a, (f a).length = n) : ∀ (l : List α) (J : Nat) (u : Value), (l.flatMap f)[J]? = some u → ∃ (k : Nat) (hk : k < l.length) (j : Nat), J = k * n + j ∧ (f l[k])[j]? = some u
  | [], J, u, h => by simp at h
  | a :: l, J, u, h => by
    rw [List.flatMap_cons] at h
    by_cases hJ : J < n
    · rw [List.getElem?_append_left (by rw [hf]; exact hJ)] at h
      exact ⟨0, by simp, J, by simp, h⟩
    · rw [List.getElem?_append_right (by rw [hf]; omega), hf] at h
      obtain ⟨k, hk, j, e, hj⟩ := flat_inv f n hf l _ u h
      refine ⟨k + 1, by simpa using hk, j, ?_, hj⟩
      rw [Nat.succ_mul]; omega

theorem addr_of_cell {w : World} {a : Addr} {v : Value} (h : w.cell? a = some v) : a = ⟨a.block, a.off, none⟩ ∧ a.block < w.heap.size := by
  obtain ⟨b, o, s⟩ := a
  unfold World.cell? at h
  cases hb : w.heap[b]? with
  | none => simp [hb] at h
  | some ob =>
    refine ⟨?_, (Array.getElem?_eq_some_iff.1 hb).1⟩
    cases ob <;> simp [hb] at h
    cases s with
    | none => rfl
    | some x => simp at h

theorem add_off (b o n : Nat) : (⟨b, o, none⟩ : Addr).add n = ⟨b, o + n, none⟩ := by
  unfold Addr.add; split <;> simp_all

theorem I64_of_wf {n : Int} (h : (Lit.int .i64 n).wf = true) : I64 n := by
  simp only [Lit.wf, IntKind.min, IntKind.max, IntKind.signed, IntKind.bits, Bool.and_eq_true, decide_eq_true_eq, if_true] at h
  unfold I64
  omega

section
variable {H : Type} {enc : TypeId × Value → H} {P : Program} {w : World}
/-- A cell that reads as a value of a type. -/
def Reads (enc : TypeId × Value → H) (P : Program) (w : World) (t : TypeId) (v : Value) : Prop := ∃ n x, DataW.trod enc P w 0 (fun _ => true) true n t [v] = some x
theorem Reads.int {t : TypeId} {v : Value} (ht : P.underlying t = some (.int .i64)) (h : Reads enc P w t v) : ∃ n, v = .int .i64 n ∧ I64 n := by
  obtain ⟨n, x, h⟩ := h
  obtain ⟨y, e1, _, wy⟩ := DataW.trod_int ht h
  simp only [List.cons.injEq, and_true] at e1
  exact ⟨y, e1, I64_of_wf wy⟩
theorem reads_of {t : TypeId} {v : Value} {d : DataW H} {p : List MemPlace} (hc : v.cells.toList = [v]) (h : DataW.Trod enc P w 0 (fun _ => true) true t v d p) : Reads enc P w t v := by
  obtain ⟨n, h⟩ := h
  rw [hc] at h
  exact ⟨n, _, h⟩

/-- The form of a row. -/
structure RowOf (enc : TypeId × Value → H) (P : Program) (w : World) (fs : Array Field) (x : List Value) : Prop where
  len : x.length = fs.size
  cell : ∀ (j : Nat) (f : Field) (v : Value), fs[j]? = some f → x[j]? = some v → Reads enc P w f.type v

/-- A slice of structs whose fields are one cell each. -/
theorem open_cells {t e : TypeId} {fs : Array Field} {v : Value} (ht : P.underlying t = some (.slice e)) (he : P.underlying e = some (.struct fs)) (hone : oneCellFields P fs = true) (hC : P.cellsOf e = fs.size) (h0 : 0 < fs.size)
    (h : Reads enc P w t v) :
    ∃ (A : Option Addr) (c : Nat) (rows : List (List Value)), v = .slice A rows.length c ∧ rows.length ≤ c ∧ c ≤ maxLen ∧ (∀ x ∈ rows, RowOf enc P w fs x) ∧ Seg w w.heap.size A (rows.flatMap id) := by
  obtain ⟨fuel, x, hf⟩ := h
  rcases open_slice ht hf with ⟨hcs, _⟩ | ⟨a, len, cap, m, n, D, Pl, hcs, hb, hl, hm, hmm, hx, hi⟩
  · simp at hcs
    subst hcs
    exact ⟨none, 0, [], rfl, by simp, by simp, by simp, Seg.nil⟩
  · simp at hcs
    subst hcs
    simp only [if_true] at hmm
    subst hmm
    have hrow : ∀ i, ∃ x : List Value, i < len → RowOf enc P w fs x ∧ ∀ j y, x[j]? = some y → w.cell? (a.add (i * fs.size + j)) = some y := by
      intro i
      by_cases hil : i < len
      · obtain ⟨cs', hc, ht'⟩ := hi i (by omega)
        rw [hC] at hc
        obtain ⟨ys, n', hn', hy, hlen, hyl, hfl⟩ := DataW.trod_struct he ht'
        obtain ⟨_, hcl, hat⟩ := World.cells?_some hc
        refine ⟨cs', fun _ => ⟨⟨hcl, ?_⟩, ?_⟩⟩
        · intro j f v hfj hv
          obtain ⟨ho, hk⟩ := hone_of hone j _ hfj
          have h1 := hfl j _ hfj
          have hjl : j < cs'.length := (List.getElem?_eq_some_iff.1 hv).1
          rw [ho, hk] at h1
          have hone' : (cs'.drop j).take 1 = [v] := by
            rw [List.drop_eq_getElem_cons hjl, (List.getElem?_eq_some_iff.1 hv).2]
            rfl
          rw [hone'] at h1
          have hjs : j < ys.length := by omega
          rw [List.getElem?_eq_getElem hjs] at h1
          exact ⟨_, _, h1⟩
        · intro j y hy
          have hjl : j < cs'.length := (List.getElem?_eq_some_iff.1 hy).1
          rw [← addr_add, hat j (by omega)]
          exact hy
      · exact ⟨[], fun h => absurd h hil⟩
    obtain ⟨g, hg⟩ := Classical.skolem.1 hrow
    have hrl : ((List.range len).map g).length = len := by simp
    refine ⟨some a, _, (List.range len).map g, by rw [hrl], by rw [hrl]; exact hl, hm, ?_, ?_⟩
    · intro x hx
      obtain ⟨i, hi', rfl⟩ := List.mem_map.1 hx
      exact (hg i (List.mem_range.1 hi')).1
    · intro J u hu
      have hu' : ((List.range len).flatMap g)[J]? = some u := by
        rw [List.flatMap_map] at hu
        exact hu
      have hpad : ∀ i, (if i < len then g i else List.replicate fs.size (Value.int .i64 0)).length = fs.size := by
        intro i
        split
        · rename_i hil; exact (hg i hil).1.len
        · simp
      have hu2 : ((List.range len).flatMap (fun i => if i < len then g i else List.replicate fs.size (Value.int .i64 0)))[J]? = some u := by
        have e : (List.range len).flatMap (fun i => if i < len then g i else List.replicate fs.size (Value.int .i64 0)) = (List.range len).flatMap g := by
          rw [List.flatMap_def, List.flatMap_def]
          congr 1
          exact List.map_congr_left fun i hi => by rw [if_pos (List.mem_range.1 hi)]
        rw [e]
        exact hu'
      obtain ⟨k, hk, j, rfl, hj⟩ := flat_inv _ fs.size hpad _ J u hu2
      have hkl : k < len := by simpa using hk
      have ek : (List.range len)[k] = k := by simp
      rw [ek, if_pos hkl] at hj
      have hc := (hg k hkl).2 j u hj
      obtain ⟨x, hx0⟩ : ∃ x, (g 0)[0]? = some x := by
        have hl0 := (hg 0 (by omega)).1.len
        exact ⟨_, List.getElem?_eq_getElem (by rw [hl0]; exact h0)⟩
      have hc0 := (hg 0 (by omega)).2 0 x hx0
      have ea : a.add (0 * fs.size + 0) = a := by simp [Addr.add]
      rw [ea] at hc0
      obtain ⟨e1, e2⟩ := addr_of_cell hc0
      refine ⟨a.block, a.off, by rw [← e1], e2, ?_⟩
      rw [← add_off, ← e1]
      exact hc
end

/-- Rows that are each of something. -/
theorem rows_of {α : Type} (f : α → List Value) (R : α → Prop) : ∀ (rows : List (List Value)), (∀ x ∈ rows, ∃ a, x = f a ∧ R a) → ∃ l : List α, l.length = rows.length ∧ rows.flatMap id = l.flatMap f ∧ ∀ a ∈ l, R a
  | [], _ => ⟨[], rfl, rfl, by simp⟩
  | x :: rows, h => by
    obtain ⟨a, rfl, ha⟩ := h x (by simp)
    obtain ⟨l, h1, h2, h3⟩ := rows_of f R rows fun y hy => h y (by simp [hy])
    refine ⟨a :: l, by simp [h1], by simp [h2], ?_⟩
    intro b hb
    rcases List.mem_cons.1 hb with rfl | hb
    · exact ha
    · exact h3 b hb
end Go.Proofs.YtmplokdbbhlomaaGreatDoor
