/-
  Lists of ints in memory: words. (Split off XInts.)
-/
import Derived.Test.YtglpnpjjjihghaaMem
import Derived.Test.YtglpnpjjjihghaaSetLaw
import Derived.Test.YtglpnpjjjihghaaMoneyDef
import Derived.Sort.OwnSortedInts
import Derived.Deep.QuietTactic
import Derived.BigQuiet
namespace Go.Proofs.Ytglpnpjjjihghaa
open Go.RowKit Go.Sort

theorem ret_int {k : IntKind} {a b : Int} (h : a = b) : Ending.returned (.int k a) = .returned (.int k b) := by rw [h]
theorem ret_bool {a b : Bool} (h : a = b) : Ending.returned (.bool a) = .returned (.bool b) := by rw [h]
theorem int_at {w : World} {B : Nat} {A : Option Addr} {zs : List Int} (h : Seg w B A (zs.map (Value.int .i64))) {k : Nat} (hk : k < zs.length) : ∃ b o, A = some ⟨b, o, none⟩ ∧ b < B ∧ w.cell? ⟨b, o + k, none⟩ = some (.int .i64 zs[k]) := by
  obtain ⟨b, o, e, hb, hc⟩ := h.at (k := k) (by simpa using hk)
  rw [List.getElem_map] at hc
  exact ⟨b, o, e, hb, hc⟩
theorem seg_cells {w : World} {B b o : Nat} {zs : List Int} (h : Seg w B (some ⟨b, o, none⟩) (zs.map (Value.int .i64))) : ∀ j, j < zs.length → w.cell? ⟨b, o + j, none⟩ = some (.int .i64 (zs.getD j 0)) := fun j hj => by
  obtain ⟨b', o', e, _, hc⟩ := int_at h hj
  injection e with e
  injection e with e1 e2
  subst e1 e2
  rw [hc]
  simp [hj]
theorem int_info : (Try.prog.info? 3).map (fun i => (i.zero, i.size, i.bytes)) = some (some (.int .i64 0), 1, 8) := by kernel_rfl
theorem contains_snoc (m : Int) {l : List Int} {k : Nat} (hk : k < l.length) : (l.take (k + 1)).contains m = ((l.take k).contains m || l[k] == m) := by
  rw [List.take_succ_eq_append_getElem hk]
  rw [Bool.eq_iff_iff]
  simp only [List.contains_iff_mem, List.mem_append, List.mem_singleton, Bool.or_eq_true, beq_iff_eq]
  constructor
  · rintro (h | h)
    · exact .inl h
    · exact .inr h.symm
  · rintro (h | h)
    · exact .inl h
    · exact .inr h.symm
theorem any_snoc {α : Type} (p : α → Bool) {l : List α} {k : Nat} (hk : k < l.length) : (l.take (k + 1)).any p = ((l.take k).any p || p l[k]) := by
  rw [List.take_succ_eq_append_getElem hk, List.any_append]; simp
theorem filter_snoc {α : Type} (p : α → Bool) {l : List α} {k : Nat} (hk : k < l.length) : (l.take (k + 1)).filter p = (l.take k).filter p ++ (if p l[k] then [l[k]] else []) := by
  rw [List.take_succ_eq_append_getElem hk, List.filter_append]
  by_cases h : p l[k] <;> simp [h]
theorem filter_len {α : Type} (p : α → Bool) (l : List α) (k : Nat) : ((l.take k).filter p).length ≤ k := by
  have h1 := List.length_filter_le p (l.take k)
  have h2 := List.length_take_le k l
  omega
/-- Is a number there? -/
def hasB (zs : List Int) (m : Int) : Bool := zs.contains m
/-- A slice of numbers has come back. -/
def GotSeg (w : World) (zs : List Int) (e : Ending) (w' : World) : Prop := ∃ A c, e = .returned (.slice A zs.length c) ∧ Seg w' w'.heap.size A (zs.map (Value.int .i64)) ∧ Below w.heap.size w w'
theorem own_mono {w : World} {base base' : Nat} {e : TypeId} {size n : Nat} {v : Value} {xs : List Value} (h : w.ownsRow base e size v n xs) (hb : base' ≤ base) : w.ownsRow base' e size v n xs := by
  rcases h.2 with ⟨rfl, rfl⟩ | ⟨g, cap, cur, rfl, hg, hh, hnc, hcm, hcs, htk⟩
  · exact ⟨h.1, Or.inl ⟨rfl, rfl⟩⟩
  · exact ⟨h.1, Or.inr ⟨g, cap, cur, rfl, Nat.le_trans hb hg, hh, hnc, hcm, hcs, htk⟩⟩
theorem own_take {w : World} {base g cap n k : Nat} {e : TypeId} {xs : List Value} (h : w.ownsRow base e 1 (.slice (some ⟨g, 0, none⟩) n cap) n xs) (hk : k ≤ n) : w.ownsRow base e 1 (.slice (some ⟨g, 0, none⟩) k cap) k (xs.take k) := by
  have hl : xs.length = n := by simpa using h.1
  rcases h.2 with ⟨h0, _⟩ | ⟨g', cap', cur, hv, hg, hh, hnc, hcm, hcs, htk⟩
  · cases h0
  · injection hv with e1 e2 e3
    injection e1 with e1
    injection e1 with e1 _
    subst e1 e3
    refine ⟨by simp; omega, Or.inr ⟨g, cap, cur, rfl, hg, hh, by omega, hcm, hcs, ?_⟩⟩
    rw [← htk, List.take_take]
    congr 1
    omega
/-- Behind the loop: sorted and each once. -/
theorem sorted_own {w w' : World} {base g cap n : Nat} {os : Array Obj} {zs : List Int} (h : w.ownsRow base 3 1 (.slice (some ⟨g, 0, none⟩) zs.length cap) zs.length (zs.map (Value.int .i64))) {ts : List Int} (hl : ts.length = zs.length) (hw : w' = grow (putRow (Value.int .i64) (Sort.ahead w n) g 0 ts.toArray) os) :
    w'.ownsRow base 3 1 (.slice (some ⟨g, 0, none⟩) zs.length cap) zs.length (ts.map (Value.int .i64)) ∧ w.grownBy w' (some g) := by
  rcases h.2 with ⟨h0, _⟩ | ⟨g', cap', cur, hv, hg, hh, hnc, hcm, hcs, htk⟩
  · cases h0
  · injection hv with e1 e2 e3
    injection e1 with e1
    injection e1 with e1 _
    subst e1 e3 hw
    exact ⟨ownsRow_sortedI hl hg hh hnc hcm hcs, grownBy_sortedI _⟩
theorem own_holds {w : World} {base g cap : Nat} {zs : List Int} (h : w.ownsRow base 3 1 (.slice (some ⟨g, 0, none⟩) zs.length cap) zs.length (zs.map (Value.int .i64))) : Holds (Value.int .i64) w g 0 zs.toArray ∧ g < w.heap.size ∧ zs.length ≤ cap := by
  rcases h.2 with ⟨h0, _⟩ | ⟨g', cap', cur, hv, hg, hh, hnc, hcm, hcs, htk⟩
  · cases h0
  · injection hv with e1 e2 e3
    injection e1 with e1
    injection e1 with e1 _
    subst e1 e3
    exact ⟨holds_of_blockI hh (by simpa using htk), (Array.getElem?_eq_some_iff.1 hh).1, hnc⟩
theorem seg_own {w : World} {base n : Nat} {v : Value} {zs : List Int} (h : w.ownsRow base 3 1 v zs.length (zs.map (Value.int .i64))) (hn : zs.length = n) : ∃ A c, v = .slice A n c ∧ Seg w w.heap.size A (zs.map (Value.int .i64)) := by
  obtain ⟨A, c, rfl⟩ := own_form h
  subst hn
  exact ⟨A, c, rfl, Seg.of_own h⟩
end Go.Proofs.Ytglpnpjjjihghaa
