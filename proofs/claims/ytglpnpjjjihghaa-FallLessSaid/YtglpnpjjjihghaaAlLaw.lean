/-
  What share.Allocate gives, in plain words: its length, its bounds, its sum, and that it is fair.
-/
import Derived.Test.YtglpnpjjjihghaaMgD
namespace Go.Proofs.Ytglpnpjjjihghaa
open Go.RowKit Go.Proofs.Ytglpnpjjjihghaa.StableLaw Go.Proofs.Ytglpnpjjjihghaa.ShareLaw

theorem sumI_take_rowF (n : Nat) (f : Nat → Int) : ∀ k, k ≤ n → sumI ((rowF n f).take k) = sumN f k
  | 0, _ => by simp [sumI, sumN]
  | k + 1, h => by
    have hk : k < (rowF n f).length := by rw [rowF_len]; omega
    rw [sumI_snoc hk, sumI_take_rowF n f k (by omega), rowF_at hk]
    rfl
theorem sumI_rowF (n : Nat) (f : Nat → Int) : sumI (rowF n f) = sumN f n := by
  rw [← sumI_take_rowF n f n (Nat.le_refl _), List.take_of_length_le (by rw [rowF_len]; exact Nat.le_refl _)]
theorem sumI_rep : ∀ n, sumI (List.replicate n 0) = 0
  | 0 => rfl
  | n + 1 => by rw [List.replicate_succ]; unfold sumI; rw [sumI_rep n]; rfl
/-- What is given, in three cases. -/
theorem al_cases {T : Int} {l : List Int} (h : chkE T l = 0) : alE T l = 0 ∧ ((sumI l ≤ T ∧ alL T l = l) ∨ (T < sumI l ∧ T = 0 ∧ alL T l = List.replicate l.length 0) ∨ (T < sumI l ∧ 0 < T ∧ alL T l = rowF l.length (ShareLaw.part T (sumI l) (wf l) l.length))) := by
  have F := fit_of h
  have hp := F.pos
  unfold alE alL appE appL
  by_cases h1 : sumI l ≤ T
  · simp [h, h1]
  · by_cases h2 : T = 0
    · subst h2
      simp [h, h1]
      omega
    · have h3 : ¬ sumI l = 0 := by omega
      simp [h, h1, h2, h3]
      omega
structure Given (T : Int) (l : List Int) : Prop where
  err : alE T l = 0
  len : (alL T l).length = l.length
  bd : ∀ i (h : i < (alL T l).length) (h' : i < l.length), 0 ≤ (alL T l)[i] ∧ (alL T l)[i] ≤ l[i]
  sum : sumI (alL T l) = min T (sumI l)
theorem getElem_of_eq {α : Type} {l m : List α} (e : l = m) {i : Nat} (h : i < l.length) : l[i] = m[i]'(e ▸ h) := by subst e; rfl
theorem wf_nonneg {l : List Int} (h : ∀ x ∈ l, 0 ≤ x) : ∀ i, i < l.length → 0 ≤ wf l i := fun i hi => by
  rw [wf_at hi]; exact h _ (List.getElem_mem hi)
theorem given_of {T : Int} {l : List Int} (h : chkE T l = 0) : Given T l := by
  have F := fit_of h
  obtain ⟨e, hc⟩ := al_cases h
  rcases hc with ⟨h1, h2⟩ | ⟨h1, h2, h3⟩ | ⟨h1, h2, h3⟩
  · refine ⟨e, by rw [h2], fun i hi hi' => ?_, by rw [h2, Int.min_eq_right h1]⟩
    rw [getElem_of_eq h2 hi]
    exact ⟨F.all _ (List.getElem_mem hi'), Int.le_refl _⟩
  · refine ⟨e, by rw [h3, List.length_replicate], fun i hi hi' => ?_, by rw [h3, sumI_rep, Int.min_eq_left (by omega), h2]⟩
    rw [getElem_of_eq h3 hi, List.getElem_replicate]
    exact ⟨Int.le_refl _, F.all _ (List.getElem_mem hi')⟩
  · have hs : sumN (wf l) l.length = sumI l := sum_wf l
    refine ⟨e, by rw [h3, rowF_len], fun i hi hi' => ?_, ?_⟩
    · rw [getElem_of_eq h3 hi, rowF_at, ← wf_at hi']
      have hw := wf_nonneg F.all i hi'
      exact ⟨part_nonneg (by omega) (by omega) hs hw, part_le_weight (by omega) (by omega) hs hw⟩
    · rw [h3, sumI_rowF, sum_part (by omega) hs, Int.min_eq_left (by omega)]
theorem given_fit {T : Int} {l : List Int} (h : chkE T l = 0) : fitB l (alL T l) = true := by
  have G := given_of h
  exact (fitB_iff G.len.symm).2 fun i h1 h2 => G.bd i h2 h1
end Go.Proofs.Ytglpnpjjjihghaa
