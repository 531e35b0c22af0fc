/-
  What share.Apportion comes to is fair: in plain words.
-/
import Derived.Test.YtblplkajgbbkdaaAlLaw
namespace Go.Proofs.Ytblplkajgbbkdaa
open Go.RowKit Go.Proofs.Ytblplkajgbbkdaa.StableLaw Go.Proofs.Ytblplkajgbbkdaa.ShareLaw

/-- A part by its size. -/
def FairP (p T wt S : Int) : Prop := (p * S ≤ T * wt → T * wt < p * S + S) ∧ (T * wt < p * S → (p - 1) * S < T * wt)
theorem FairP.zero {wt S : Int} (hS : 0 < S) : FairP 0 0 wt S := by
  unfold FairP
  simp only [Int.zero_mul]
  omega
structure FairF (T : Int) (l zs : List Int) : Prop where
  len : zs.length = l.length
  sum : sumI zs = T
  pos : 0 ≤ T
  all : ∀ x ∈ l, 0 ≤ x
  amt : I64 (sumI l)
  bd : ∀ i (h : i < zs.length), 0 ≤ zs[i] ∧ zs[i] ≤ T
  fair : ∀ i (h : i < zs.length) (h' : i < l.length), 0 < sumI l → FairP zs[i] T l[i] (sumI l)
  ord : ∀ i k (h : i < zs.length) (h' : i < l.length) (g : k < zs.length) (g' : k < l.length), k < i → (l[i] < l[k] → zs[i] ≤ zs[k]) ∧ (l[k] < l[i] → zs[k] ≤ zs[i]) ∧ (l[k] = l[i] → zs[i] ≤ zs[k])
theorem appE_ne {T : Int} {l : List Int} (h : appE T l ≠ 0) : appL T l = [] := by
  unfold appE at h
  unfold appL
  by_cases h1 : chkE T l ≠ 0
  · rw [if_pos h1]
  · rw [if_neg h1] at h ⊢
    by_cases h2 : T = 0
    · rw [if_pos h2] at h; exact absurd rfl h
    · rw [if_neg h2] at h ⊢
      by_cases h3 : sumI l = 0
      · rw [if_pos h3]
      · rw [if_neg h3] at h; exact absurd rfl h
theorem appE_eq {T : Int} {l : List Int} (h : appE T l = 0) : FairF T l (appL T l) := by
  unfold appE at h
  unfold appL
  by_cases h1 : chkE T l ≠ 0
  · rw [if_pos h1] at h; exact absurd h h1
  · have h0 : chkE T l = 0 := by omega
    have F := fit_of h0
    rw [if_neg h1] at h ⊢
    by_cases h2 : T = 0
    · rw [if_pos h2]
      subst h2
      refine ⟨by simp, sumI_rep _, by omega, F.all, F.amt, fun i h => by simp, fun i h h' hS => by rw [List.getElem_replicate]; exact FairP.zero hS, fun i k h h' g g' hk => by simp⟩
    · rw [if_neg h2] at h ⊢
      by_cases h3 : sumI l = 0
      · rw [if_pos h3] at h; omega
      · rw [if_neg h3]
        have hp := F.pos
        have hS : 0 < sumI l := by have := sum_nonneg F.all; omega
        have hs : sumN (wf l) l.length = sumI l := sum_wf l
        refine ⟨rowF_len _ _, by rw [sumI_rowF, sum_part hS hs], F.pos, F.all, F.amt, fun i h => ?_, fun i h h' _ => ?_, fun i k h h' g g' hk => ?_⟩
        · rw [rowF_at]
          rw [rowF_len] at h
          have hw := wf_nonneg F.all i h
          refine ⟨part_nonneg hS hp hs hw, part_le hS hp hs ?_⟩
          rw [wf_at h]
          exact mem_le_sum F.all _ (List.getElem_mem h)
        · rw [rowF_at, ← wf_at h']
          exact part_fair hS hs i
        · rw [rowF_at, rowF_at]
          rw [← wf_at h', ← wf_at g']
          exact ⟨fun e => part_mono hS (by omega) g' e, fun e => part_mono hS (by omega) h' e, fun e => part_first g' e.symm hk⟩
end Go.Proofs.Ytblplkajgbbkdaa
