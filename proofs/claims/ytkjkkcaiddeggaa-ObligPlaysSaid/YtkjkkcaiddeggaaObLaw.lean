/-
  What the calls of a sheet keep, in plain Lean: no program.
-/
import Derived.Test.YtkjkkcaiddeggaaObPlain
namespace Go.Proofs.Ytkjkkcaiddeggaa
open Go.RowKit

theorem fine_modify {L : List Ob} {i : Nat} {f : Ob → Ob} (h : Fine L) (hok : ∀ x, L[i]? = some x → (f x).ok) (hkeep : ∀ x, (f x).m = x.m ∧ (f x).a = x.a ∧ (isOpen (f x) = true → isOpen x = true)) : Fine (L.modify i f) := by
  refine ⟨?_, ?_, by simpa using h.len⟩
  · intro y hy
    obtain ⟨k, hk, rfl⟩ := List.mem_iff_getElem.1 hy
    rw [List.getElem_modify]
    have hk' : k < L.length := by simpa using hk
    split
    · rename_i e
      subst e
      exact hok _ (List.getElem?_eq_getElem hk')
    · exact h.each _ (List.getElem_mem hk')
  · intro j k hj hk hjk oj ok' hsame
    have hj' : j < L.length := by simpa using hj
    have hk' : k < L.length := by simpa using hk
    rw [List.getElem_modify] at oj ok' hsame
    rw [List.getElem_modify] at hsame
    have fact : ∀ (q : Nat) (hq : q < L.length), (isOpen (if i = q then f L[q] else L[q]) = true → isOpen L[q] = true) ∧ (if i = q then f L[q] else L[q]).m = L[q].m ∧ (if i = q then f L[q] else L[q]).a = L[q].a := by
      intro q hq
      split
      · exact ⟨(hkeep _).2.2, (hkeep _).1, (hkeep _).2.1⟩
      · exact ⟨id, rfl, rfl⟩
    rw [(fact j hj').2.1, (fact j hj').2.2, (fact k hk').2.1, (fact k hk').2.2] at hsame
    exact h.once j k hj' hk' hjk ((fact j hj').1 oj) ((fact k hk').1 ok') hsame

theorem stays_refl (L : List Ob) : Stays L L := ⟨Nat.le_refl _, fun _ h _ => List.getElem?_eq_getElem h⟩
theorem stays_modify {L : List Ob} {i : Nat} {f : Ob → Ob} (h : ∀ x, L[i]? = some x → isOpen x = true) : Stays L (L.modify i f) := by
  refine ⟨by simp, fun k hk ho => ?_⟩
  rw [List.getElem?_modify]
  by_cases e : i = k
  · subst e
    rw [h _ (List.getElem?_eq_getElem hk)] at ho
    cases ho
  · simp [e, hk]

theorem find_open {m a : Int} {L : List Ob} {x : Ob} (h : L[findI m a L]? = some x) : isOpen x = true ∧ x.m = m ∧ x.a = a := by
  obtain ⟨hl, e⟩ := List.getElem?_eq_some_iff.1 h
  have hp := List.findIdx_getElem (xs := L) (p := mineB m a) (w := hl)
  have hp' : mineB m a x = true := by rw [← e]; exact hp
  simp [mineB] at hp'
  exact ⟨by simp [isOpen, hp'.1.1], hp'.1.2, hp'.2⟩

theorem fine_pay {L : List Ob} (m a n : Int) (h : Fine L) : Fine (payL m a n L) ∧ Stays L (payL m a n L) := by
  unfold payL
  split
  · rename_i he
    have hx : ∀ x, L[findI m a L]? = some x → 0 ≤ x.net ∧ 1 ≤ n ∧ n ≤ x.net - x.done := by
      intro x hx
      unfold payE at he
      rw [hx] at he
      simp only at he
      split at he
      · cases he
      · split at he
        · cases he
        · split at he
          · cases he
          · omega
    refine ⟨fine_modify h (fun x hq => ?_) (fun x => ⟨rfl, rfl, id⟩), stays_modify fun x hq => (find_open hq).1⟩
    obtain ⟨h1, h2, h3⟩ := hx x hq
    have ho := h.each x (List.mem_of_getElem? hq)
    have hs : x.size = x.net := by unfold Ob.size; rw [if_neg (by omega)]
    have d0 := ho.d0
    refine ⟨ho.lo, ho.hi, ho.ne, by simp only; omega, ?_⟩
    show x.done + n ≤ x.size
    rw [hs]; omega
  · exact ⟨h, stays_refl _⟩

theorem fine_take {L : List Ob} (m a n : Int) (h : Fine L) : Fine (takeL m a n L) ∧ Stays L (takeL m a n L) := by
  unfold takeL
  split
  · rename_i he
    have hx : ∀ x, L[findI m a L]? = some x → 1 ≤ n ∧ n ≤ x.done := by
      intro x hx
      unfold takeE at he
      rw [hx] at he
      simp only at he
      split at he
      · cases he
      · split at he
        · cases he
        · split at he
          · cases he
          · omega
    refine ⟨fine_modify h (fun x hq => ?_) (fun x => ⟨rfl, rfl, id⟩), stays_modify fun x hq => (find_open hq).1⟩
    obtain ⟨h2, h3⟩ := hx x hq
    have ho := h.each x (List.mem_of_getElem? hq)
    have d1 := ho.d1
    refine ⟨ho.lo, ho.hi, ho.ne, by simp only; omega, ?_⟩
    show x.done - n ≤ x.size
    omega
  · exact ⟨h, stays_refl _⟩

theorem fine_mark {L : List Ob} (m a s n : Int) (h : Fine L) : Fine (markL m a s n L) ∧ Stays L (markL m a s n L) := by
  unfold markL
  split
  · rename_i he
    have hx : ∀ x, L[findI m a L]? = some x → 2 ≤ s ∧ 0 ≤ n ∧ n ≤ x.size := by
      intro x hx
      unfold markE at he
      rw [hx] at he
      simp only at he
      split at he
      · cases he
      · omega
    have hi2 : findI m a L < L.length → 2 ≤ s := fun hl => (hx _ (List.getElem?_eq_getElem hl)).1
    by_cases hl : findI m a L < L.length
    · have hs2 := hi2 hl
      refine ⟨fine_modify h (fun x hq => ?_) (fun x => ⟨rfl, rfl, fun ho => ?_⟩), stays_modify fun x hq => (find_open hq).1⟩
      · obtain ⟨h2, h3, h4⟩ := hx x hq
        have ho := h.each x (List.mem_of_getElem? hq)
        exact ⟨ho.lo, ho.hi, ho.ne, h3, h4⟩
      · simp [isOpen] at ho
        omega
    · rw [List.modify_eq_self (by omega)]
      exact ⟨h, stays_refl _⟩
  · exact ⟨h, stays_refl _⟩

theorem bad_not {nets : List Lg} (h : badB nets = false) (i : Nat) (hi : i < nets.length) : twiceB nets i hi = false := by
  unfold badB at h
  rw [List.any_eq_false] at h
  have := h i (List.mem_range.2 hi)
  rw [dif_pos hi] at this
  simpa using this

theorem fine_open {L : List Ob} (cy : Int) (nets : List Lg) (h : Fine L) (hI : ∀ y ∈ nets, -9223372036854775808 ≤ y.n ∧ y.n ≤ 9223372036854775807) : Fine (openL cy nets L) ∧ Stays L (openL cy nets L) := by
  unfold openL
  split
  · rename_i he
    unfold openE at he
    split at he
    · cases he
    rename_i h1
    split at he
    · cases he
    rename_i h2
    split at he
    · cases he
    split at he
    · cases he
    rename_i h4
    have hbad : badB nets = false := by simpa using h4
    have hno : ∀ x ∈ L, isOpen x = false := by
      intro x hx
      have h2' : L.any isOpen = false := by simpa using h2
      rw [List.any_eq_false] at h2'
      simpa using h2' x hx
    have hz : ∀ i (hi : i < nets.length), nets[i].n ≠ 0 ∧ nets[i].n ≠ minI := by
      intro i hi
      have := bad_not hbad i hi
      unfold twiceB zeroB at this
      simp at this
      exact ⟨this.1.1, this.1.2⟩
    refine ⟨⟨?_, ?_, ?_⟩, ⟨by simp, fun k hk _ => by rw [List.getElem?_append_left hk]; exact List.getElem?_eq_getElem hk⟩⟩
    · intro x hx
      rcases List.mem_append.1 hx with hx | hx
      · exact h.each x hx
      · obtain ⟨y, hy, rfl⟩ := List.mem_map.1 hx
        obtain ⟨i, hi, rfl⟩ := List.mem_iff_getElem.1 hy
        obtain ⟨z1, z2⟩ := hz i hi
        obtain ⟨b1, b2⟩ := hI _ (List.getElem_mem hi)
        refine ⟨?_, b2, z1, Int.le_refl _, ?_⟩
        · unfold minI at z2 ⊢
          show -9223372036854775808 < nets[i].n
          omega
        · show 0 ≤ (newOb cy nets[i]).size
          unfold Ob.size
          split <;> omega
    · intro j k hj hk hjk oj ok' hs
      have hjL : ¬ j < L.length := fun hlt => by
        rw [List.getElem_append_left hlt, hno _ (List.getElem_mem hlt)] at oj
        cases oj
      have hkL : ¬ k < L.length := by omega
      rw [List.getElem_append_right (by omega), List.getElem_append_right (by omega)] at hs
      simp only [List.getElem_map, newOb] at hs
      simp only [List.length_append, List.length_map] at hj hk
      have hb := bad_not hbad (k - L.length) (by omega)
      unfold twiceB at hb
      rw [Bool.or_eq_false_iff] at hb
      have hb2 := hb.2
      rw [List.any_eq_false] at hb2
      have hmem : nets[j - L.length]'(by omega) ∈ nets.take (k - L.length) := by
        rw [List.mem_take_iff_getElem]
        exact ⟨j - L.length, by omega, rfl⟩
      have := hb2 _ hmem
      simp [likeB] at this
      exact this hs.1 hs.2
    · simp only [List.length_append, List.length_map]
      omega
  · exact ⟨h, stays_refl _⟩
end Go.Proofs.Ytkjkkcaiddeggaa
