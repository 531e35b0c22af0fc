/-
  Rising lists of numbers, each once, in plain Lean: no program.
-/
import Derived.Lib.SlicesCompact
namespace Go.Proofs.Ytglpnpjjjihghaa

theorem get_arr (zs : List Int) {j : Nat} (hj : j < zs.length) : zs.toArray[j]! = zs[j] := by simp [hj]
theorem mem_compact (zs : List Int) (x : Int) : x ∈ Lib.compact zs ↔ x ∈ zs := by
  unfold Lib.compact Lib.compactUpTo
  rw [List.mem_map]
  constructor
  · rintro ⟨j, hj, rfl⟩
    have hj' := List.mem_range.1 (List.mem_filter.1 hj).1
    rw [get_arr zs hj']
    exact List.getElem_mem hj'
  · intro hx
    obtain ⟨j, hj, rfl⟩ := List.mem_iff_getElem.1 hx
    clear hx
    induction j using Nat.strongRecOn with
    | _ j ih =>
      by_cases hk : Lib.keeps zs.toArray j = true
      · exact ⟨j, List.mem_filter.2 ⟨List.mem_range.2 hj, hk⟩, get_arr zs hj⟩
      · simp only [Lib.keeps, decide_eq_true_eq, not_or] at hk
        obtain ⟨h0, h1⟩ := hk
        have hj1 : j - 1 < zs.length := by omega
        have e : zs[j] = zs[j - 1] := by
          rw [← get_arr zs hj, ← get_arr zs hj1]
          exact Classical.not_not.1 h1
        obtain ⟨i, hi, hz⟩ := ih (j - 1) (by omega) hj1
        exact ⟨i, hi, hz.trans e.symm⟩
theorem compact_lt (zs : List Int) (h : zs.Pairwise (· ≤ ·)) : (Lib.compact zs).Pairwise (· < ·) := by
  unfold Lib.compact Lib.compactUpTo
  rw [List.pairwise_map]
  have hr : ((List.range zs.length).filter (Lib.keeps zs.toArray)).Pairwise (· < ·) := List.Pairwise.filter _ List.pairwise_lt_range
  refine List.Pairwise.imp_of_mem (fun {a b} ha hb hab => ?_) hr
  have hb1 := List.mem_range.1 (List.mem_filter.1 hb).1
  have hk := (List.mem_filter.1 hb).2
  simp only [Lib.keeps, decide_eq_true_eq] at hk
  have ha1 : a < zs.length := by omega
  have hb2 : b - 1 < zs.length := by omega
  rcases hk with hk | hk
  · omega
  · rw [get_arr zs hb1, get_arr zs hb2] at hk
    rw [get_arr zs ha1, get_arr zs hb1]
    have h1 : zs[a] ≤ zs[b - 1] := by
      rcases Nat.lt_or_ge a (b - 1) with h2 | h2
      · exact List.pairwise_iff_getElem.1 h a (b - 1) ha1 hb2 h2
      · have e : a = b - 1 := by omega
        subst e
        exact Int.le_refl _
    have h2 : zs[b - 1] ≤ zs[b] := List.pairwise_iff_getElem.1 h (b - 1) b hb2 hb1 (by omega)
    omega
theorem compact_len (zs : List Int) : (Lib.compact zs).length ≤ zs.length := by
  unfold Lib.compact Lib.compactUpTo
  rw [List.length_map]
  have := List.length_filter_le (Lib.keeps zs.toArray) (List.range zs.length)
  simpa using this
theorem compact_nil : Lib.compact ([] : List Int) = [] := rfl

/-- Rising, each once. -/
def onceL (zs : List Int) : List Int := Lib.compact (zs.mergeSort fun x y => decide (x ≤ y))
theorem once_mem (zs : List Int) (x : Int) : x ∈ onceL zs ↔ x ∈ zs := by unfold onceL; rw [mem_compact, List.mem_mergeSort]
theorem once_lt (zs : List Int) : (onceL zs).Pairwise (· < ·) := by
  refine compact_lt _ ?_
  have h := List.pairwise_mergeSort (le := fun (x y : Int) => decide (x ≤ y)) (fun a b c h1 h2 => by simp at *; omega) (fun a b => by simp; omega) zs
  simpa using h
theorem once_len (zs : List Int) : (onceL zs).length ≤ zs.length := by
  have h1 := compact_len (zs.mergeSort fun x y => decide (x ≤ y))
  rw [List.length_mergeSort] at h1
  exact h1
theorem once_nil : onceL [] = [] := by unfold onceL; rw [List.mergeSort_nil]; rfl

/-- Two rising lists with the same members are the same. -/
theorem rising_ext : ∀ (a b : List Int), a.Pairwise (· < ·) → b.Pairwise (· < ·) → (∀ x, x ∈ a ↔ x ∈ b) → a = b
  | [], [], _, _, _ => rfl
  | [], y :: b, _, _, h => by have := (h y).2 (by simp); simp at this
  | x :: a, [], _, _, h => by have := (h x).1 (by simp); simp at this
  | x :: a, y :: b, ha, hb, h => by
    obtain ⟨ha1, ha2⟩ := List.pairwise_cons.1 ha
    obtain ⟨hb1, hb2⟩ := List.pairwise_cons.1 hb
    have hxy : x = y := by
      have h1 := (h x).1 (by simp)
      have h2 := (h y).2 (by simp)
      rcases List.mem_cons.1 h1 with e | e
      · exact e
      · rcases List.mem_cons.1 h2 with e' | e'
        · exact e'.symm
        · have := hb1 x e
          have := ha1 y e'
          omega
    subst hxy
    have ht : a = b := rising_ext a b ha2 hb2 fun z => by
      constructor
      · intro hz
        rcases List.mem_cons.1 ((h z).1 (List.mem_cons_of_mem _ hz)) with e | e
        · subst e; exact absurd (ha1 z hz) (by omega)
        · exact e
      · intro hz
        rcases List.mem_cons.1 ((h z).2 (List.mem_cons_of_mem _ hz)) with e | e
        · subst e; exact absurd (hb1 z hz) (by omega)
        · exact e
    rw [ht]

/-- A number put ahead of the first greater one. -/
def insL (m : Int) : List Int → List Int
  | [] => [m]
  | x :: r => if m < x then m :: x :: r else x :: insL m r
def gtB (m : Int) (x : Int) : Bool := decide (m < x)
theorem ins_none (m : Int) : ∀ (t : List Int), t.any (gtB m) = false → insL m t = t ++ [m]
  | [], _ => rfl
  | x :: t, h => by
    rw [List.any_cons, Bool.or_eq_false_iff] at h
    have hx : ¬ m < x := by have := h.1; unfold gtB at this; simpa using this
    unfold insL
    rw [if_neg hx, ins_none m t h.2]
    rfl
theorem ins_snoc (m x : Int) : ∀ (t : List Int), insL m (t ++ [x]) = if t.any (gtB m) then insL m t ++ [x] else if m < x then t ++ [m, x] else t ++ [x, m]
  | [] => by
    simp only [List.nil_append, List.any_nil, Bool.false_eq_true, if_false]
    unfold insL
    split <;> rfl
  | y :: t => by
    rw [List.cons_append, List.any_cons]
    unfold insL
    by_cases hy : m < y
    · have hg : gtB m y = true := by unfold gtB; simpa using hy
      rw [if_pos hy, if_pos hy, hg]
      simp
    · have hg : gtB m y = false := by unfold gtB; simpa using hy
      rw [if_neg hy, if_neg hy, hg, Bool.false_or, ins_snoc m x t]
      split
      · rfl
      · split <;> rfl
theorem ins_mem (m x : Int) : ∀ (t : List Int), x ∈ insL m t ↔ x = m ∨ x ∈ t
  | [] => by simp [insL]
  | y :: t => by
    unfold insL
    split
    · simp
    · rw [List.mem_cons, ins_mem m x t, List.mem_cons]
      constructor
      · rintro (h | h | h)
        · exact .inr (.inl h)
        · exact .inl h
        · exact .inr (.inr h)
      · rintro (h | h | h)
        · exact .inr (.inl h)
        · exact .inl h
        · exact .inr (.inr h)
theorem ins_lt (m : Int) : ∀ (t : List Int), t.Pairwise (· < ·) → m ∉ t → (insL m t).Pairwise (· < ·)
  | [], _, _ => by simp [insL]
  | y :: t, h, hm => by
    obtain ⟨h1, h2⟩ := List.pairwise_cons.1 h
    unfold insL
    split
    · rename_i hy
      refine List.pairwise_cons.2 ⟨fun z hz => ?_, h⟩
      rcases List.mem_cons.1 hz with e | e
      · rw [e]; exact hy
      · have := h1 z e; omega
    · rename_i hy
      have hne : m ≠ y := fun e => hm (by simp [e])
      refine List.pairwise_cons.2 ⟨fun z hz => ?_, ins_lt m t h2 (fun hx => hm (by simp [hx]))⟩
      rcases (ins_mem m z t).1 hz with e | e
      · rw [e]; omega
      · exact h1 z e
theorem ins_len (m : Int) : ∀ (t : List Int), (insL m t).length = t.length + 1
  | [] => rfl
  | y :: t => by
    unfold insL
    split
    · rfl
    · rw [List.length_cons, ins_len m t]; rfl
/-- A rising list, with a number, once. -/
def putL (t : List Int) (m : Int) : List Int := if t.contains m then t else insL m t
theorem put_mem (t : List Int) (m x : Int) : x ∈ putL t m ↔ x ∈ t ∨ x = m := by
  unfold putL
  split
  · rename_i h
    have hm : m ∈ t := by simpa using h
    constructor
    · exact .inl
    · rintro (h | rfl)
      · exact h
      · exact hm
  · rw [ins_mem]
    exact or_comm
theorem put_lt (t : List Int) (m : Int) (h : t.Pairwise (· < ·)) : (putL t m).Pairwise (· < ·) := by
  unfold putL
  split
  · exact h
  · rename_i hm
    exact ins_lt m t h (by simpa using hm)
theorem put_len (t : List Int) (m : Int) : (putL t m).length ≤ t.length + 1 := by
  unfold putL
  split
  · omega
  · rw [ins_len]; exact Nat.le_refl _
/-- Numbers put one behind the other. -/
def putsL (zs : List Int) : List Int := zs.foldl putL []
theorem puts_snoc (zs : List Int) (x : Int) : putsL (zs ++ [x]) = putL (putsL zs) x := by unfold putsL; rw [List.foldl_append]; rfl
theorem puts_both : ∀ (zs acc : List Int), acc.Pairwise (· < ·) → (zs.foldl putL acc).Pairwise (· < ·) ∧ ∀ x, x ∈ zs.foldl putL acc ↔ x ∈ acc ∨ x ∈ zs
  | [], acc, h => ⟨h, fun x => by simp⟩
  | z :: zs, acc, h => by
    obtain ⟨h1, h2⟩ := puts_both zs (putL acc z) (put_lt acc z h)
    refine ⟨h1, fun x => ?_⟩
    rw [List.foldl_cons, h2 x, put_mem, List.mem_cons]
    constructor
    · rintro ((h | h) | h)
      · exact .inl h
      · exact .inr (.inl h)
      · exact .inr (.inr h)
    · rintro (h | h | h)
      · exact .inl (.inl h)
      · exact .inl (.inr h)
      · exact .inr h
theorem puts_once (zs : List Int) : putsL zs = onceL zs := by
  obtain ⟨h1, h2⟩ := puts_both zs [] List.Pairwise.nil
  refine rising_ext _ _ h1 (once_lt zs) fun x => ?_
  rw [once_mem]
  have := h2 x
  simpa [putsL] using this
theorem puts_len : ∀ (zs acc : List Int), (zs.foldl putL acc).length ≤ acc.length + zs.length
  | [], acc => by simp
  | z :: zs, acc => by
    have h1 := puts_len zs (putL acc z)
    have h2 := put_len acc z
    rw [List.foldl_cons, List.length_cons]
    omega
end Go.Proofs.Ytglpnpjjjihghaa
