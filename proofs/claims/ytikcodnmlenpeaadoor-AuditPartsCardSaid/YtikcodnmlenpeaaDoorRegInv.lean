/-
  A region that draws its order, some of whose operations may come up in any order and leave the frame alone: by an invariant over what has come up.
-/
import Derived.Test.YtikcodnmlenpeaaDoorMem
import Derived.OrdersHeld
namespace Go.Proofs.YtikcodnmlenpeaaDoor
open Go.RowKit

def undone (ops : Array Oper) (listed : Array Bool) : Nat := ((List.range ops.size).filter fun i => !listed.getD i true).length
theorem ready_undone {md : Region.Mode} {ops : Array Oper} {listed : Array Bool} (h : undone ops listed = 0) : Region.ready md ops listed = [] := by
  unfold undone at h
  have e := List.eq_nil_of_length_eq_zero h
  rw [List.eq_nil_iff_forall_not_mem]
  intro i hi
  unfold Region.ready at hi
  have h1 := List.mem_filter.1 hi
  simp only [Bool.and_eq_true] at h1
  have : i ∈ (List.range ops.size).filter fun i => !listed.getD i true := List.mem_filter.2 ⟨h1.1, h1.2.1⟩
  rw [e] at this
  cases this
theorem undone_set {ops : Array Oper} {listed : Array Bool} {i : Nat} (hi : i < ops.size) (hl : listed.getD i true = false) : undone ops (listed.setIfInBounds i true) < undone ops listed := by
  unfold undone
  have hs : i < listed.size := by
    rcases Nat.lt_or_ge i listed.size with h | h
    · exact h
    · simp [Array.getD, Nat.not_lt.2 h] at hl
  have e : ((List.range ops.size).filter fun j => !(listed.setIfInBounds i true).getD j true) = ((List.range ops.size).filter fun j => !listed.getD j true).filter (fun j => j != i) := by
    rw [List.filter_filter]
    refine List.filter_congr fun j _ => ?_
    by_cases c : j = i
    · subst c
      simp [hs]
    · have c' : ¬ i = j := fun h => c h.symm
      simp only [Array.getD, Array.size_setIfInBounds]
      by_cases hj : j < listed.size
      · simp [hj, c', c]
      · simp [hj]
  rw [e, List.length_filter_lt_length_iff_exists]
  exact ⟨i, List.mem_filter.2 ⟨List.mem_range.2 hi, by rw [hl]; rfl⟩, by simp⟩

section
variable {P : Program} {md : Region.Mode} {ops : Array Oper} {Q : Exit → Act → World → Prop} {S : World → Prop}
/-- Until all of a set have come up, in whatever order. -/
theorem wpAnyH_inv (a : Act) (I : Array Bool → World → Prop) (E : Array Bool → Prop)
    (hstep : ∀ listed w, I listed w → ¬ E listed → Region.ready md ops listed ≠ [] ∧ ∀ i ∈ Region.ready md ops listed, wpOp P ops Q i (fun a' w' => S w' ∧ a' = a ∧ I (listed.setIfInBounds i true) w') a w)
    (hexit : ∀ listed w, I listed w → E listed → ∀ fuel, undone ops listed ≤ fuel → wpAnyH P md ops Q S fuel listed a w) :
    ∀ (fuel : Nat) (listed : Array Bool) (w : World), undone ops listed ≤ fuel → I listed w → wpAnyH P md ops Q S fuel listed a w
  | fuel, listed, w, hf, hI => by
    by_cases hE : E listed
    · exact hexit listed w hI hE fuel hf
    · obtain ⟨hne, hall⟩ := hstep listed w hI hE
      match fuel, hf with
      | 0, hf => exact absurd (ready_undone (md := md) (Nat.le_zero.1 hf)) hne
      | fuel + 1, hf =>
        refine ⟨fun h => absurd h hne, fun i hi => wpOp_mono (fun a' w' h => ?_) (hall i hi)⟩
        obtain ⟨hS, ea, hI'⟩ := h
        rw [ea]
        refine ⟨hS, wpAnyH_inv a I E hstep hexit fuel _ w' ?_ hI'⟩
        obtain ⟨hl, o, ho, _⟩ := mem_ready.1 hi
        have := undone_set (ops := ops) (Array.getElem?_eq_some_iff.1 ho).1 hl
        omega
end
end Go.Proofs.YtikcodnmlenpeaaDoor
