/-
  The plain law of parts where some weights are nothing: the others' parts are as if these were not there.
-/
import Derived.Test.YtglpnpjjjihghaaPlanLaw
namespace Go.Proofs.Ytglpnpjjjihghaa
open Go.RowKit Go.Proofs.Ytglpnpjjjihghaa.StableLaw Go.Proofs.Ytglpnpjjjihghaa.ShareLaw

/-- How many are kept, of the first k. -/
def kpN (keep : Nat → Bool) : Nat → Nat
  | 0 => 0
  | k + 1 => kpN keep k + (if keep k then 1 else 0)
theorem kpN_mono (keep : Nat → Bool) (i : Nat) : ∀ j, i ≤ j → kpN keep i ≤ kpN keep j
  | 0, h => by obtain rfl : i = 0 := by omega
               exact Nat.le_refl _
  | j + 1, h => by
    by_cases e : i = j + 1
    · subst e; exact Nat.le_refl _
    · have := kpN_mono keep i j (by omega)
      show _ ≤ kpN keep j + (if keep j then 1 else 0)
      omega
theorem kpN_lt {keep : Nat → Bool} {i j : Nat} (h : i < j) (hk : keep i = true) : kpN keep i < kpN keep j := by
  have h1 := kpN_mono keep (i + 1) j (by omega)
  have h2 : kpN keep (i + 1) = kpN keep i + 1 := by
    show kpN keep i + (if keep i then 1 else 0) = _
    rw [hk]; rfl
  omega
theorem kpN_iff {keep : Nat → Bool} {i j : Nat} (hi : keep i = true) (hj : keep j = true) : kpN keep j < kpN keep i ↔ j < i := by
  rcases Nat.lt_trichotomy i j with h | h | h
  · have := kpN_lt h hi; omega
  · subst h; omega
  · have := kpN_lt h hj; omega
theorem sumN_keep {keep : Nat → Bool} {F G : Nat → Int} : ∀ n, (∀ i, i < n → F i = if keep i then G (kpN keep i) else 0) → sumN F n = sumN G (kpN keep n)
  | 0, _ => rfl
  | n + 1, h => by
    have ih := sumN_keep (keep := keep) (F := F) (G := G) n fun i hi => h i (by omega)
    have hn := h n (by omega)
    show sumN F n + F n = sumN G (kpN keep n + (if keep n then 1 else 0))
    rw [ih, hn]
    cases keep n with
    | true => rfl
    | false => exact Int.add_zero _
theorem cnt_keep {keep : Nat → Bool} {p q : Nat → Bool} : ∀ n, (∀ i, i < n → p i = (keep i && q (kpN keep i))) → cnt p n = cnt q (kpN keep n)
  | 0, _ => rfl
  | n + 1, h => by
    have ih := cnt_keep (keep := keep) (p := p) (q := q) n fun i hi => h i (by omega)
    have hn := h n (by omega)
    show cnt p n + (if p n then 1 else 0) = cnt q (kpN keep n + (if keep n then 1 else 0))
    rw [ih, hn]
    cases keep n with
    | true => rfl
    | false => rfl
theorem part_keep {T S : Int} {keep : Nat → Bool} {V W : Nat → Int} {n : Nat} (hS : 0 < S) (hsum : sumN W n = S) (hW : ∀ i, i < n → W i = if keep i then V (kpN keep i) else 0) {i : Nat} (hi : i < n) :
    ShareLaw.part T S W n i = if keep i then ShareLaw.part T S V (kpN keep n) (kpN keep i) else 0 := by
  have hV : sumN V (kpN keep n) = S := by rw [← sumN_keep n hW]; exact hsum
  have hq : ∀ i, i < n → quo T S W i = if keep i then quo T S V (kpN keep i) else 0 := fun i hi => by
    unfold quo
    rw [hW i hi]
    split
    · rfl
    · simp
  have hr : ∀ i, i < n → rst T S W i = if keep i then rst T S V (kpN keep i) else 0 := fun i hi => by
    unfold rst
    rw [hW i hi]
    split
    · rfl
    · simp
  have hL : left T S W n = left T S V (kpN keep n) := by unfold left; rw [sumN_keep n hq]
  have h0 := hr i hi
  unfold ShareLaw.part partT
  rw [hq i hi]
  by_cases hk : keep i = true
  · rw [if_pos hk, if_pos hk]
    rw [if_pos hk] at h0
    by_cases hp : 0 < rst T S W i
    · have hrk : rk (rst T S W) n i = rk (rst T S V) (kpN keep n) (kpN keep i) := by
        unfold rk
        refine cnt_keep n fun j hj => ?_
        have hrj := hr j hj
        cases hkj : keep j with
        | true =>
          rw [if_pos hkj] at hrj
          have hio := kpN_iff hk hkj
          rw [Bool.true_and, Bool.eq_iff_iff, ah_iff, ah_iff, hrj, h0, hio]
        | false =>
          rw [hkj] at hrj
          have hrj : rst T S W j = 0 := hrj
          rw [Bool.false_and]
          unfold ah
          rw [decide_eq_false (by omega), decide_eq_false (by omega)]
          rfl
      rw [hrk, hL]
    · have n1 : ¬ rk (rst T S W) n i < (left T S W n).toNat := fun h => hp (rst_of_first hS hsum h)
      have n2 : ¬ rk (rst T S V) (kpN keep n) (kpN keep i) < (left T S V (kpN keep n)).toNat := fun h => by
        have := rst_of_first hS hV h
        omega
      rw [if_neg n1, if_neg n2]
  · rw [if_neg hk, if_neg hk]
    rw [if_neg hk] at h0
    have n1 : ¬ rk (rst T S W) n i < (left T S W n).toNat := fun h => by
      have := rst_of_first hS hsum h
      omega
    rw [if_neg n1]
    rfl
end Go.Proofs.Ytglpnpjjjihghaa
