/-
  Rows of numbers that are known whole; what share.apportion's order of rests tells; how a row is sorted: contracts for callers.
-/
import Derived.Test.YtblplkajgbbkdaaShr2
import Derived.Test.YtblplkajgbbkdaaStb7
import Derived.Test.YtblplkajgbbkdaaShareLaw
import Derived.Deep.Heap
import Derived.Laws.OwnMore
import Derived.Sort.OwnSortedInts
import Derived.Deep.QuietTactic
import Derived.BigQuiet
namespace Go.Proofs.Ytblplkajgbbkdaa
open Go.RowKit Go.Lib Go.Sort Go.Shelf Go.Proofs.Ytblplkajgbbkdaa.StableLaw Go.Proofs.Ytblplkajgbbkdaa.ShareLaw

/-- A block is a row of numbers. -/
def Rowb (w : World) (b : Nat) (t : TypeId) (xs : List Int) : Prop := w.heap[b]? = some (.cells (xs.map (Value.int .i64)).toArray t (0, 0))
section
variable {w w' : World} {b B : Nat} {t : TypeId} {xs : List Int}
theorem Rowb.cell (h : Rowb w b t xs) {i : Nat} (hi : i < xs.length) : w.cell? ⟨b, i, none⟩ = some (.int .i64 xs[i]) := by
  rw [cell_of_row w b i _ t (0, 0) h]
  simp [hi]
theorem Rowb.free (h : Rowb w b t xs) (i : Nat) : w.frozen? ⟨b, i, none⟩ = false := frozen_of_row w b i _ t h
theorem Rowb.of_block (h : Rowb w b t xs) (e : w'.heap[b]? = w.heap[b]?) : Rowb w' b t xs := e.trans h
theorem Rowb.below (h : Rowb w b t xs) (hb : b < B) (k : Below B w w') : Rowb w' b t xs := h.of_block (k.block b hb)
theorem Rowb.drew (h : Rowb w b t xs) : Rowb w.drew b t xs := h
theorem Rowb.other (h : Rowb w b t xs) {a : Addr} (v : Value) (hne : b ≠ a.block) : Rowb (w.setCell a v) b t xs := h.of_block (Deep.blk_setCell_other w a v b hne)
theorem Rowb.set (h : Rowb w b t xs) (i : Nat) (v : Int) : Rowb (w.setCell ⟨b, i, none⟩ (.int .i64 v)) b t (xs.set i v) := by
  unfold Rowb at *
  rw [setCell_eq, mapBlock, Array.getElem?_modify, if_pos rfl, h]
  simp [onCells, List.map_set]
theorem Rowb.new (w : World) (t : TypeId) (xs : List Int) : Rowb (w.alloc (.cells (xs.map (Value.int .i64)).toArray t)) w.heap.size t xs := heap_alloc_new w _
theorem Rowb.alloc (h : Rowb w b t xs) (hb : b < w.heap.size) (o : Obj) : Rowb (w.alloc o) b t xs := h.of_block (Deep.blk_alloc_lt w o b hb)
theorem Rowb.seg (h : Rowb w b t xs) (hb : b < B) : Seg w B (some ⟨b, 0, none⟩) (xs.map (Value.int .i64)) := by
  intro j u hu
  refine ⟨b, 0, rfl, hb, ?_⟩
  rw [cell_of_row w b (0 + j) _ t (0, 0) h, Nat.zero_add]
  simpa using hu
end
/-- A row by a function of places. -/
def rowF (n : Nat) (f : Nat → Int) : List Int := (List.range n).map f
theorem rowF_len (n : Nat) (f : Nat → Int) : (rowF n f).length = n := by simp [rowF]
theorem rowF_at {n : Nat} {f : Nat → Int} {i : Nat} (h : i < (rowF n f).length) : (rowF n f)[i] = f i := by simp [rowF]
theorem rowF_congr {n : Nat} {f g : Nat → Int} (h : ∀ i, i < n → f i = g i) : rowF n f = rowF n g := by
  unfold rowF
  exact List.map_congr_left fun i hi => h i (List.mem_range.1 hi)
theorem rowF_set {n : Nat} {f : Nat → Int} (k : Nat) (v : Int) : (rowF n f).set k v = rowF n (fun i => if i = k then v else f i) := by
  apply List.ext_getElem
  · simp [rowF_len]
  · intro i h1 h2
    rw [List.getElem_set, rowF_at, rowF_at]
    by_cases c : k = i
    · rw [if_pos c, if_pos c.symm]
    · rw [if_neg c, if_neg fun e => c e.symm]
theorem rowF_step {n k : Nat} {g : Nat → Int} : (rowF n (fun i => if i < k then g i else 0)).set k (g k) = rowF n (fun i => if i < k + 1 then g i else 0) := by
  rw [rowF_set]
  refine rowF_congr fun i _ => ?_
  by_cases c : i = k
  · rw [if_pos c, if_pos (by omega), c]
  · rw [if_neg c]
    by_cases c2 : i < k
    · rw [if_pos c2, if_pos (by omega)]
    · rw [if_neg c2, if_neg (by omega)]
theorem rowF_all {n : Nat} {g : Nat → Int} : rowF n (fun i => if i < n then g i else 0) = rowF n g := rowF_congr fun i h => by rw [if_pos h]
theorem rowF_zero {n : Nat} {g : Nat → Int} : rowF n (fun i => if i < 0 then g i else 0) = List.replicate n 0 := by
  apply List.ext_getElem
  · simp [rowF_len]
  · intro i h1 h2
    rw [rowF_at, if_neg (by omega), List.getElem_replicate]
theorem made_zero (n : Nat) : madeCells (Value.int IntKind.i64 0).cells n = Array.replicate n (Value.int .i64 0) := by
  apply Array.toList_inj.1
  have e : (Value.int IntKind.i64 0).cells = #[Value.int .i64 0] := rfl
  rw [e, toList_madeCells_one]
  simp
/-- make, of numbers. -/
theorem make64 (n : Nat) (hn : n ≤ 1000000) (W : World) : (Instr.makeSlice 22 (.int .i64 (n : Int)) (.int .i64 (n : Int))).run Try.prog W = .ok (.slice (some ⟨W.heap.size, 0, none⟩) n n) (W.alloc (.cells (Array.replicate n (Value.int .i64 0)) 2)) := by
  have inf : (Try.prog.info? 2).map (fun i => (i.zero, i.size, i.bytes)) = some (some (.int .i64 0), 1, 8) := by kernel_rfl
  obtain ⟨i0, hi, hz0, hz1, hz2⟩ := info_parts inf
  have h := run_makeSlice (P := Try.prog) W 22 2 i0 _ Try.underlying22 hi hz0 .i64 .i64 n n (by omega) (Int.le_refl _) (by rw [hz1]; simp; omega) (by rw [hz2]; simp; omega) (by omega)
  rw [hz1] at h
  simp only [Int.toNat_natCast, Nat.mul_one] at h
  rw [made_zero] at h
  exact h
theorem makeInt (n : Nat) (hn : n ≤ 1000000) (W : World) : (Instr.makeSlice 53 (.int .i64 (n : Int)) (.int .i64 (n : Int))).run Try.prog W = .ok (.slice (some ⟨W.heap.size, 0, none⟩) n n) (W.alloc (.cells (Array.replicate n (Value.int .i64 0)) 3)) := by
  have inf : (Try.prog.info? 3).map (fun i => (i.zero, i.size, i.bytes)) = some (some (.int .i64 0), 1, 8) := by kernel_rfl
  obtain ⟨i0, hi, hz0, hz1, hz2⟩ := info_parts inf
  have h := run_makeSlice (P := Try.prog) W 53 3 i0 _ Try.underlying53 hi hz0 .i64 .i64 n n (by omega) (Int.le_refl _) (by rw [hz1]; simp; omega) (by rw [hz2]; simp; omega) (by omega)
  rw [hz1] at h
  simp only [Int.toNat_natCast, Nat.mul_one] at h
  rw [made_zero] at h
  exact h

theorem compare_same (x y : Int) (w : World) : Calls Try.prog 75 #[.int .i64 x, .int .i64 y] w fun e w' => e = .returned (.int .i64 (cmpI x y)) ∧ w' = w := (compare_any x y w).mono fun _ _ ⟨a, b⟩ => ⟨a, b.symm⟩
/-- The order of rests. -/
theorem ord_any (bc br n : Nat) (r : Nat → Int) (x y : Nat) (hx : x < n) (hy : y < n) (w : World) (hc : w.cell? ⟨bc, 0, none⟩ = some (.slice (some ⟨br, 0, none⟩) n n)) (hr : ∀ i, i < n → w.cell? ⟨br, i, none⟩ = some (.int .i64 (r i))) :
    Calls Try.prog 74 #[.int .i64 x, .int .i64 y, .pointer (some ⟨bc, 0, none⟩)] w fun e w' => e = .returned (.int .i64 (cmpI (r y) (r x))) ∧ ∃ q, w' = w.drewN q := by
  have c1 := hr x hx
  have c2 := hr y hy
  clear hr
  have i1 : (0 : Int) ≤ (x : Int) := by omega
  have i2 : (x : Int) < (n : Int) := by omega
  have i3 : (0 : Int) ≤ (y : Int) := by omega
  have i4 : (y : Int) < (n : Int) := by omega
  go_enter Try.func74, Try.ntmps74
  go_wp2_with fail
  go_quiet ((go_at_call 75; exact Calls.quiet_of_same (compare_same _ _ _)))
  go_wp2_with fail
  go_ret
  exact ⟨rfl, _, rfl⟩
end Go.Proofs.Ytblplkajgbbkdaa
