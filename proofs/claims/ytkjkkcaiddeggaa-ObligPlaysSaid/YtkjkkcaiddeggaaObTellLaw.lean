/-
  What Lacking comes to, in plain Lean: no program.
-/
import Derived.Test.YtkjkkcaiddeggaaObLack
namespace Go.Proofs.Ytkjkkcaiddeggaa
open Go.RowKit Go.Sort

theorem get_arr (zs : List Int) {j : Nat} (hj : j < zs.length) : zs.toArray[j]! = zs[j] := by simp [hj]
theorem mem_compact (zs : List Int) (x : Int) : x ∈ Lib.compact zs ↔ x ∈ zs := by
  unfold Lib.compact Lib.compactUpTo
  rw [List.mem_map]
  constructor
  · rintro ⟨j, hj, rfl⟩
    have hj' := List.mem_range.1 (List.mem_filter.1 hj).1
    rw [get_arr zs hj']
    exact List.getElem_mem hj'
  · intro hx
    obtain ⟨j, hj, rfl⟩ := List.mem_iff_getElem.1 hx
    clear hx
    induction j using Nat.strongRecOn with
    | _ j ih =>
      by_cases hk : Lib.keeps zs.toArray j = true
      · exact ⟨j, List.mem_filter.2 ⟨List.mem_range.2 hj, hk⟩, get_arr zs hj⟩
      · simp only [Lib.keeps, decide_eq_true_eq, not_or] at hk
        obtain ⟨h0, h1⟩ := hk
        have hj1 : j - 1 < zs.length := by omega
        have e : zs[j] = zs[j - 1] := by
          rw [← get_arr zs hj, ← get_arr zs hj1]
          exact Classical.not_not.1 h1
        obtain ⟨i, hi, hz⟩ := ih (j - 1) (by omega) hj1
        exact ⟨i, hi, hz.trans e.symm⟩
theorem compact_lt (zs : List Int) (h : zs.Pairwise (· ≤ ·)) : (Lib.compact zs).Pairwise (· < ·) := by
  unfold Lib.compact Lib.compactUpTo
  rw [List.pairwise_map]
  have hr : ((List.range zs.length).filter (Lib.keeps zs.toArray)).Pairwise (· < ·) := List.Pairwise.filter _ List.pairwise_lt_range
  refine List.Pairwise.imp_of_mem (fun {a b} ha hb hab => ?_) hr
  have hb1 := List.mem_range.1 (List.mem_filter.1 hb).1
  have hk := (List.mem_filter.1 hb).2
  simp only [Lib.keeps, decide_eq_true_eq] at hk
  have ha1 : a < zs.length := by omega
  have hb2 : b - 1 < zs.length := by omega
  rcases hk with hk | hk
  · omega
  · rw [get_arr zs hb1, get_arr zs hb2] at hk
    rw [get_arr zs ha1, get_arr zs hb1]
    have h1 : zs[a] ≤ zs[b - 1] := by
      rcases Nat.lt_or_ge a (b - 1) with h2 | h2
      · exact List.pairwise_iff_getElem.1 h a (b - 1) ha1 hb2 h2
      · have e : a = b - 1 := by omega
        subst e
        exact Int.le_refl _
    have h2 : zs[b - 1] ≤ zs[b] := List.pairwise_iff_getElem.1 h (b - 1) b hb2 hb1 (by omega)
    omega

theorem lack_mem (L : List Ob) (x : Int) : x ∈ lackL L ↔ L.any (owesB x) = true := by
  unfold lackL
  rw [mem_compact, List.mem_mergeSort, List.any_eq_true, List.mem_map]
  constructor
  · rintro ⟨y, hy, rfl⟩
    have h1 := List.mem_filter.1 hy
    have h2 := List.mem_filter.1 h1.1
    refine ⟨y, h2.1, ?_⟩
    have h3 := h2.2
    have h4 := h1.2
    simp [lackB] at h3 h4
    simp [owesB, h3, h4]
  · rintro ⟨y, hy, h⟩
    simp [owesB] at h
    obtain ⟨⟨⟨h1, h2⟩, h3⟩, h4⟩ := h
    exact ⟨y, List.mem_filter.2 ⟨List.mem_filter.2 ⟨hy, by simp [h1, h3]⟩, by simp [lackB, h4]⟩, h2⟩
theorem lack_sorted (L : List Ob) : (lackL L).Pairwise (· < ·) := by
  refine compact_lt _ ?_
  have h := List.pairwise_mergeSort (le := fun (x y : Int) => decide (x ≤ y)) (fun a b c h1 h2 => by simp at *; omega) (fun a b => by simp; omega) (((L.filter fun x => x.st == 1 && decide (0 < x.net)).filter lackB).map (·.m))
  simpa using h
theorem lack_len (L : List Ob) : (lackL L).length ≤ L.length := by
  unfold lackL
  have h1 := compact_len ((((L.filter fun x => x.st == 1 && decide (0 < x.net)).filter lackB).map (·.m)).mergeSort fun x y => decide (x ≤ y))
  have h2 : ((((L.filter fun x => x.st == 1 && decide (0 < x.net)).filter lackB).map (·.m)).mergeSort fun x y => decide (x ≤ y)).length = ((L.filter fun x => x.st == 1 && decide (0 < x.net)).filter lackB).length := by rw [List.length_mergeSort, List.length_map]
  have h3 := List.length_filter_le lackB (L.filter fun x => x.st == 1 && decide (0 < x.net))
  have h4 := List.length_filter_le (fun x : Ob => x.st == 1 && decide (0 < x.net)) L
  omega
theorem debts_side (L : List Ob) : L.filter (fun x => x.st == 1 && decide (0 < x.net)) = L.filter (sideB true) := by
  congr 1
  funext x
  unfold sideB
  cases (x.st == 1) <;> cases decide (0 < x.net) <;> rfl
theorem claims_side {L : List Ob} (h : Fine L) : L.filter (fun x => x.st == 1 && decide (x.net < 0)) = L.filter (sideB false) := by
  refine List.filter_congr fun x hx => ?_
  have hn := (h.each x hx).ne
  unfold sideB
  have e : decide (x.net < 0) = (decide (0 < x.net) == false) := by
    rw [Bool.eq_iff_iff]
    simp
    omega
  rw [e]
end Go.Proofs.Ytkjkkcaiddeggaa
