/-
  What claims are given and what is lacking are, for each, the claim: in plain words.
-/
import Derived.Test.YtblplkajgbbkdaaAl5
namespace Go.Proofs.Ytblplkajgbbkdaa
open Go.RowKit

/-- The sum of the amounts of those for which something holds. -/
def sumIf (p : Lg → Bool) : List Lg → Int
  | [] => 0
  | x :: l => (if p x then x.n else 0) + sumIf p l
theorem sumIf_append (p : Lg → Bool) : ∀ (l m : List Lg), sumIf p (l ++ m) = sumIf p l + sumIf p m
  | [], m => by simp [sumIf]
  | x :: l, m => by simp only [List.cons_append, sumIf, sumIf_append p l m]; omega
theorem sumIf_snoc (p : Lg → Bool) {l : List Lg} {k : Nat} (hk : k < l.length) : sumIf p (l.take (k + 1)) = sumIf p (l.take k) + if p l[k] then l[k].n else 0 := by
  rw [List.take_succ_eq_append_getElem hk, sumIf_append]; simp [sumIf]
theorem sumIf_all : ∀ l : List Lg, sumIf (fun _ => true) l = sumI (amts l)
  | [] => rfl
  | x :: l => by
    have := sumIf_all l
    simp only [sumIf, amts, List.map_cons, sumI, if_true] at *
    omega
theorem sumIf_nonneg (p : Lg → Bool) : ∀ (l : List Lg), (∀ x ∈ l, 0 ≤ x.n) → 0 ≤ sumIf p l
  | [], _ => by simp [sumIf]
  | x :: l, h => by
    have h1 := sumIf_nonneg p l fun y hy => h y (List.mem_cons_of_mem _ hy)
    have h2 := h x (List.mem_cons_self ..)
    simp only [sumIf]
    split <;> omega
theorem sumIf_le (p : Lg → Bool) : ∀ (l : List Lg), (∀ x ∈ l, 0 ≤ x.n) → sumIf p l ≤ sumIf (fun _ => true) l
  | [], _ => by simp [sumIf]
  | x :: l, h => by
    have h1 := sumIf_le p l fun y hy => h y (List.mem_cons_of_mem _ hy)
    have h2 := h x (List.mem_cons_self ..)
    simp only [sumIf, if_true]
    split <;> omega
theorem sumIf_take_le (p : Lg → Bool) {l : List Lg} (h : ∀ x ∈ l, 0 ≤ x.n) (k : Nat) : 0 ≤ sumIf p (l.take k) ∧ sumIf p (l.take k) ≤ sumIf p l := by
  have h1 := sumIf_nonneg p (l.take k) fun x hx => h x (List.mem_of_mem_take hx)
  have h2 := sumIf_nonneg p (l.drop k) fun x hx => h x (List.mem_of_mem_drop hx)
  have h3 := sumIf_append p (l.take k) (l.drop k)
  rw [List.take_append_drop] at h3
  omega
def mkL (x : Lg) (n : Int) : Lg := ⟨x.m, x.a, n⟩
theorem someL_cons (x : Lg) (L : List Lg) (n : Int) (xs : List Int) : someL (x :: L) (n :: xs) = (if 0 < n then [mkL x n] else []) ++ someL L xs := by
  unfold someL
  rw [List.zipWith_cons_cons]
  by_cases c : 0 < n
  · rw [List.filter_cons_of_pos (by simpa using c), if_pos c]; rfl
  · rw [List.filter_cons_of_neg (by simpa using c), if_neg c]; rfl
def pm (m : Int) (x : Lg) : Bool := x.m == m
/-- A test that looks at the member alone, or at nothing. -/
def MemP (p : Lg → Bool) : Prop := ∀ x n, p (mkL x n) = p x
theorem memP_pm (m : Int) : MemP (pm m) := fun _ _ => rfl
theorem memP_all : MemP (fun _ => true) := fun _ _ => rfl
theorem split_sum {p : Lg → Bool} (hp : MemP p) : ∀ (L : List Lg) (xs : List Int), xs.length = L.length → (∀ x ∈ xs, 0 ≤ x) → (∀ x ∈ List.zipWith (· - ·) (amts L) xs, 0 ≤ x) →
    sumIf p (someL L xs) + sumIf p (someL L (List.zipWith (· - ·) (amts L) xs)) = sumIf p L
  | [], [], _, _, _ => by simp [someL, sumIf, amts]
  | x :: L, n :: xs, hl, h0, h1 => by
    have ih := split_sum hp L xs (by simpa using hl) (fun y hy => h0 y (List.mem_cons_of_mem _ hy)) (fun y hy => h1 y (by simp only [amts, List.map_cons, List.zipWith_cons_cons]; exact List.mem_cons_of_mem _ hy))
    have a0 := h0 n (List.mem_cons_self ..)
    have a1 := h1 (x.n - n) (by simp only [amts, List.map_cons, List.zipWith_cons_cons]; exact List.mem_cons_self ..)
    have e : List.zipWith (· - ·) (amts (x :: L)) (n :: xs) = (x.n - n) :: List.zipWith (· - ·) (amts L) xs := rfl
    have q : ∀ k : Int, 0 ≤ k → sumIf p (if 0 < k then [mkL x k] else []) = if p x then k else 0 := fun k hk => by
      by_cases c : 0 < k
      · rw [if_pos c]
        simp only [sumIf]
        rw [hp x k]
        simp only [mkL]
        split <;> omega
      · rw [if_neg c]
        simp only [sumIf]
        split <;> omega
    rw [e, someL_cons, someL_cons, sumIf_append, sumIf_append, q n a0, q _ a1]
    simp only [sumIf]
    split <;> omega
  | [], _ :: _, hl, _, _ => by simp at hl
  | _ :: _, [], hl, _, _ => by simp at hl
theorem some_sum : ∀ (L : List Lg) (xs : List Int), xs.length = L.length → (∀ x ∈ xs, 0 ≤ x) → sumIf (fun _ => true) (someL L xs) = sumI xs
  | [], [], _, _ => rfl
  | x :: L, n :: xs, hl, h0 => by
    have ih := some_sum L xs (by simpa using hl) (fun y hy => h0 y (List.mem_cons_of_mem _ hy))
    have a0 := h0 n (List.mem_cons_self ..)
    rw [someL_cons, sumIf_append, ih]
    by_cases c : 0 < n
    · rw [if_pos c]; simp [sumIf, sumI, mkL]
    · rw [if_neg c]; simp only [sumIf, sumI]; omega
  | [], _ :: _, hl, _ => by simp at hl
  | _ :: _, [], hl, _ => by simp at hl
theorem someL_pos (L : List Lg) (xs : List Int) : ∀ x ∈ someL L xs, 0 ≤ x.n := by
  intro x hx
  unfold someL at hx
  have := (List.mem_filter.1 hx).2
  simp at this
  omega
/-- Members rise. -/
theorem rise {L : List Lg} (h : clmE L = 0) : ∀ k (hk : k < L.length) i (hi : i < L.length), i < k → L[i].m < L[k].m := by
  obtain ⟨_, b, _⟩ := clmE_ok h
  have step : ∀ k (hk : k + 1 < L.length), L[k].m < L[k + 1].m := fun k hk => by
    have := b (k + 1) hk
    rw [badAt_at hk, prevM_at (by omega)] at this
    simp at this
    exact this.2.2
  intro k
  induction k with
  | zero => intro _ i _ h; omega
  | succ k ih =>
    intro hk i hi hik
    have s := step k hk
    by_cases e : i = k
    · subst e; exact s
    · have := ih (by omega) i hi (by omega); omega
theorem sumIf_none {p : Lg → Bool} : ∀ {l : List Lg}, (∀ x ∈ l, p x = false) → sumIf p l = 0
  | [], _ => rfl
  | x :: l, h => by
    simp only [sumIf]
    rw [h x (List.mem_cons_self ..), sumIf_none fun y hy => h y (List.mem_cons_of_mem _ hy)]
    rfl
theorem mine_zero {L : List Lg} (h : clmE L = 0) {m : Int} {k : Nat} (hk : k < L.length) (e : L[k].m = m) : sumIf (pm m) (L.take k) = 0 := by
  refine sumIf_none fun x hx => ?_
  obtain ⟨i, hi, rfl⟩ := List.mem_iff_getElem.1 hx
  rw [List.length_take] at hi
  rw [List.getElem_take]
  have := rise h k hk i (by omega) (by omega)
  unfold pm
  rw [beq_eq_false_iff_ne]
  omega
structure WholeF (avail : Int) (L : List Lg) (m : Int) : Prop where
  g0 : ∀ x ∈ givL avail L, 0 ≤ x.n
  l0 : ∀ x ∈ lackL avail L, 0 ≤ x.n
  tg : sumIf (fun _ => true) (givL avail L) = min avail (sumI (amts L))
  tl : sumIf (fun _ => true) (lackL avail L) = sumI (amts L) - min avail (sumI (amts L))
  me : sumIf (pm m) (givL avail L) + sumIf (pm m) (lackL avail L) = sumIf (pm m) L
  mz : ∀ k (hk : k < L.length), L[k].m = m → sumIf (pm m) (L.take k) = 0
  n0 : ∀ x ∈ L, 0 ≤ x.n
  gl : (givL avail L).length ≤ L.length
  ll : (lackL avail L).length ≤ L.length
theorem wholeF_of {avail : Int} {L : List Lg} (m : Int) (h : shE avail L = 0) : WholeF avail L m := by
  obtain ⟨hck, hcl, hav⟩ := clm_chk h
  have G := given_of hck
  have hll : lostL (amts L) (alL avail (amts L)) = List.zipWith (· - ·) (amts L) (alL avail (amts L)) := by unfold lostL; rw [if_pos (given_fit hck)]
  have hg : givL avail L = someL L (alL avail (amts L)) := by unfold givL; rw [if_pos h]
  have hk : lackL avail L = someL L (List.zipWith (· - ·) (amts L) (alL avail (amts L))) := by unfold lackL; rw [if_pos h, hll]
  have hlen : (alL avail (amts L)).length = L.length := by rw [G.len, amts_len]
  have p1 : ∀ x ∈ alL avail (amts L), 0 ≤ x := fun x hx => by
    obtain ⟨i, hi, rfl⟩ := List.mem_iff_getElem.1 hx
    exact (G.bd i hi (by rw [← G.len]; exact hi)).1
  have p2 : ∀ x ∈ List.zipWith (· - ·) (amts L) (alL avail (amts L)), 0 ≤ x := fun x hx => by
    obtain ⟨i, hi, rfl⟩ := List.mem_iff_getElem.1 hx
    rw [List.length_zipWith] at hi
    rw [List.getElem_zipWith]
    have := G.bd i (by omega) (by omega)
    omega
  have s1 := split_sum memP_all L _ hlen p1 p2
  have s2 := split_sum (memP_pm m) L _ hlen p1 p2
  have s3 := some_sum L _ hlen p1
  rw [G.sum] at s3
  rw [← hg, ← hk] at s1 s2
  rw [← hg] at s3
  rw [sumIf_all L] at s1
  refine ⟨by rw [hg]; exact someL_pos _ _, by rw [hk]; exact someL_pos _ _, s3, by omega, s2, fun k hk e => mine_zero hcl hk e, fun x hx => ?_, by rw [hg]; exact someL_le _ _, by rw [hk]; exact someL_le _ _⟩
  obtain ⟨i, hi, rfl⟩ := List.mem_iff_getElem.1 hx
  have := (clmE_ok hcl).2.1 i hi
  rw [badAt_at hi] at this
  simp at this
  omega
end Go.Proofs.Ytblplkajgbbkdaa
