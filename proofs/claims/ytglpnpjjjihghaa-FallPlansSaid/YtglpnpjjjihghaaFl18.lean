/-
  Steps towards the walk of complineref23.Plan: how far each of its loops has come.
-/
import Derived.Test.YtglpnpjjjihghaaFl17
namespace Go.Proofs.Ytglpnpjjjihghaa
open Go.RowKit Go.Proofs.Ytglpnpjjjihghaa.StableLaw Go.Proofs.Ytglpnpjjjihghaa.ShareLaw

def plX (p : Pol) (os : List Int) (need : Int) (k : Nat) : List Dw × Int := (os.take k).foldl (tkS 8 (atI p.co)) ([], need)
def plY (p : Pol) (os : List Int) (need : Int) (k : Nat) : List Dw × Int := (os.take k).foldl (tkS 9 (atI p.fu)) (plX p os need os.length)
def plG (p : Pol) (os : List Int) (need : Int) : List Int := alL (planA p os need).2 (wOut p.fu os)
def plZ (p : Pol) (os : List Int) (need : Int) (k : Nat) : List Dw × Int := (List.range k).foldl (gvS (plG p os need)) (planA p os need)
structure PlS (st : List Dw × Int) (n : Nat) (need : Int) : Prop where
  len : st.1.length ≤ n
  lo : 0 ≤ st.2
  hi : st.2 ≤ need
theorem atI_nn {l : List Int} (h : ∀ x ∈ l, 0 ≤ x) (m : Int) : 0 ≤ atI l m := by
  unfold atI
  rw [List.getD_eq_getElem?_getD]
  by_cases hi : (m - 1).toNat < l.length
  · rw [List.getElem?_eq_getElem hi]
    exact h _ (List.getElem_mem hi)
  · rw [List.getElem?_eq_none (by omega)]
    exact Int.le_refl _
theorem MayF.co0 {p : Pol} {os : List Int} (F : MayF p os) : ∀ x ∈ p.co, 0 ≤ x ∧ x ≤ 1099511627776 := fun x hx => F.all x (by simp [polL, hx])
theorem MayF.fu0 {p : Pol} {os : List Int} (F : MayF p os) : ∀ x ∈ p.fu, 0 ≤ x ∧ x ≤ 1099511627776 := fun x hx => F.all x (by simp [polL, hx])
theorem MayF.ln0 {p : Pol} {os : List Int} (F : MayF p os) : 0 ≤ p.line ∧ p.line ≤ 1099511627776 := F.all p.line (by simp [polL])
theorem MayF.cp0 {p : Pol} {os : List Int} (F : MayF p os) : 0 ≤ p.cap ∧ p.cap ≤ 1099511627776 := F.all p.cap (by simp [polL])
theorem PlS.fold {st : List Dw × Int} {n : Nat} {need : Int} (h : PlS st n need) (k : Int) {f : Int → Int} (hf : ∀ m, 0 ≤ f m) (os : List Int) : PlS (os.foldl (tkS k f) st) (n + os.length) need := by
  refine ⟨?_, tkS_nonneg k f os st h.lo, tkS_up k f os st need (fun m _ => hf m) h.lo h.hi⟩
  have := tkS_len k f os st
  have := h.len
  omega
theorem plX_ok {p : Pol} {os : List Int} {need : Int} (F : MayF p os) (hn : 0 ≤ need) (k : Nat) : PlS (plX p os need k) os.length need := by
  have h0 : PlS (([], need) : List Dw × Int) 0 need := ⟨Nat.le_refl _, hn, Int.le_refl _⟩
  have h := h0.fold 8 (fun m => atI_nn (fun x hx => (F.co0 x hx).1) m) (os.take k)
  have hl : (os.take k).length ≤ os.length := by rw [List.length_take]; omega
  exact ⟨Nat.le_trans h.len (by omega), h.lo, h.hi⟩
theorem plY_ok {p : Pol} {os : List Int} {need : Int} (F : MayF p os) (hn : 0 ≤ need) (k : Nat) : PlS (plY p os need k) (os.length + os.length) need := by
  have h := (plX_ok F hn os.length).fold 9 (fun m => atI_nn (fun x hx => (F.fu0 x hx).1) m) (os.take k)
  have hl : (os.take k).length ≤ os.length := by rw [List.length_take]; omega
  exact ⟨Nat.le_trans h.len (by omega), h.lo, h.hi⟩
theorem plY_all (p : Pol) (os : List Int) (need : Int) : plY p os need os.length = planA p os need := by
  unfold plY plX planA
  rw [List.take_length]
theorem plA_ok {p : Pol} {os : List Int} {need : Int} (F : MayF p os) (hn : 0 ≤ need) : PlS (planA p os need) (os.length + os.length) need := plY_all p os need ▸ plY_ok F hn os.length
theorem plX_succ {p : Pol} {os : List Int} {need : Int} {k s : Nat} (hk : k < os.length) (hs : s < p.co.length) (ho : os[k] = (s : Int) + 1) :
    plX p os need (k + 1) = (tkL (plX p os need k).1 8 ((s : Int) + 1) p.co[s] (plX p os need k).2, (plX p os need k).2 - min p.co[s] (plX p os need k).2) := by
  unfold plX
  rw [tkS_take _ _ _ hk, ho]
  unfold tkS
  rw [atI_at hs]
theorem plY_succ {p : Pol} {os : List Int} {need : Int} {k s : Nat} (hk : k < os.length) (hs : s < p.fu.length) (ho : os[k] = (s : Int) + 1) :
    plY p os need (k + 1) = (tkL (plY p os need k).1 9 ((s : Int) + 1) p.fu[s] (plY p os need k).2, (plY p os need k).2 - min p.fu[s] (plY p os need k).2) := by
  unfold plY
  rw [tkS_take _ _ _ hk, ho]
  unfold tkS
  rw [atI_at hs]
theorem wOut_len (fu os : List Int) : (wOut fu os).length = fu.length := rowF_len _ _
theorem wOut_at {fu os : List Int} {i : Nat} (h : i < (wOut fu os).length) : (wOut fu os)[i] = if inW os i then wf fu i else 0 := rowF_at h
theorem plG_given {p : Pol} {os : List Int} {need : Int} (F : MayF p os) (hn : 0 ≤ need) : Given (planA p os need).2 (wOut p.fu os) :=
  given_of (chk_wOut F.fu0 (by have := F.len; have := F.big; omega) (plA_ok F hn).lo)
theorem plG_len {p : Pol} {os : List Int} {need : Int} (F : MayF p os) (hn : 0 ≤ need) : (plG p os need).length = p.fu.length := (plG_given F hn).len.trans (wOut_len _ _)
theorem plG_bd {p : Pol} {os : List Int} {need : Int} (F : MayF p os) (hn : 0 ≤ need) {i : Nat} (h : i < (plG p os need).length) : 0 ≤ (plG p os need)[i] ∧ (plG p os need)[i] ≤ 1099511627776 := by
  have hl := plG_len F hn
  have h1 := (plG_given F hn).bd i h (by rw [wOut_len]; omega)
  have h2 := wOut_at (fu := p.fu) (os := os) (i := i) (by rw [wOut_len]; omega)
  refine ⟨h1.1, Int.le_trans h1.2 ?_⟩
  rw [h2]
  split
  · rw [wf_at (by omega)]; exact (F.fu0 _ (List.getElem_mem _)).2
  · omega
theorem sumN_up {f : Nat → Int} {n : Nat} (h : ∀ i, i < n → 0 ≤ f i) : ∀ {k : Nat}, k ≤ n → sumN f k ≤ sumN f n := by
  induction n with
  | zero => intro k hk; obtain rfl : k = 0 := by omega
            exact Int.le_refl _
  | succ n ih =>
    intro k hk
    by_cases hk2 : k = n + 1
    · subst hk2; exact Int.le_refl _
    · have := ih (fun i hi => h i (by omega)) (k := k) (by omega)
      have := h n (by omega)
      show sumN f k ≤ sumN f n + f n
      omega
theorem plZ_ok {p : Pol} {os : List Int} {need : Int} (F : MayF p os) (hn : 0 ≤ need) {k : Nat} (hk : k ≤ p.fu.length) : PlS (plZ p os need k) (os.length + os.length + k) need := by
  have hl := plG_len F hn
  have hA := plA_ok F hn
  have h0 : ∀ i, i < (plG p os need).length → 0 ≤ wf (plG p os need) i := fun i hi => by rw [wf_at hi]; exact (plG_bd F hn hi).1
  have hs := (plG_given F hn).sum
  have hs2 : sumN (wf (plG p os need)) (plG p os need).length = sumI (plG p os need) := sum_wf _
  have hs3 := sumN_up h0 (k := k) (by omega)
  have hs4 : 0 ≤ sumN (wf (plG p os need)) k := sumN_nonneg fun i hi => h0 i (by omega)
  have hN := given_need (plG p os need) (planA p os need).1 (planA p os need).2 k
  have hs5 : sumI (plG p os need) ≤ (planA p os need).2 := by
    show sumI (alL (planA p os need).2 (wOut p.fu os)) ≤ _
    rw [hs]; exact Int.min_le_left _ _
  have hL : ∀ k, ((List.range k).foldl (gvS (plG p os need)) (planA p os need)).1.length ≤ (planA p os need).1.length + k := by
    intro k
    induction k with
    | zero => exact Nat.le_refl _
    | succ k ih =>
      rw [List.range_succ, List.foldl_append, List.foldl_cons, List.foldl_nil]
      show (tkL _ _ _ _ _).length ≤ _
      unfold tkL
      split
      · rw [List.length_append, List.length_singleton]; omega
      · omega
  refine ⟨Nat.le_trans (hL k) (by have := hA.len; omega), ?_, ?_⟩
  · show 0 ≤ ((List.range k).foldl (gvS (plG p os need)) (planA p os need)).2
    rw [hN]; omega
  · show ((List.range k).foldl (gvS (plG p os need)) (planA p os need)).2 ≤ need
    rw [hN]; have := hA.hi; omega
theorem plZ_succ {p : Pol} {os : List Int} {need : Int} {k : Nat} (hk : k < (plG p os need).length) :
    plZ p os need (k + 1) = (tkL (plZ p os need k).1 9 ((k : Int) + 1) (plG p os need)[k] (plG p os need)[k], (plZ p os need k).2 - (plG p os need)[k]) := by
  show (List.range (k + 1)).foldl (gvS (plG p os need)) (planA p os need) = _
  rw [List.range_succ, List.foldl_append, List.foldl_cons, List.foldl_nil]
  show (tkL _ _ _ (wf (plG p os need) k) (wf (plG p os need) k), _ - wf (plG p os need) k) = _
  rw [wf_at hk]
  rfl
theorem plZ_all (p : Pol) (os : List Int) (need : Int) : plZ p os need p.fu.length = planB p os need := rfl
/-- The last two. -/
theorem planR_eq (p : Pol) (os : List Int) (need : Int) {l : List Dw} {n : Int} (h : planB p os need = (l, n)) : planR p os need = tkL (tkL l 3 0 p.line n) 4 0 p.cap (n - min p.line n) := by
  unfold planR
  rw [h]
theorem wOut_take {fu os : List Int} {k : Nat} (hk : k < fu.length) : (wOut fu os).take (k + 1) = (wOut fu os).take k ++ [if os.contains ((k : Int) + 1) then 0 else fu[k]] := by
  have h : k < (wOut fu os).length := by rw [wOut_len]; exact hk
  rw [List.take_succ_eq_append_getElem h, wOut_at h, wf_at hk]
  unfold inW
  cases os.contains ((k : Int) + 1) <;> rfl
theorem wOut_bd {p : Pol} {os : List Int} (F : MayF p os) : ∀ x ∈ wOut p.fu os, 0 ≤ x ∧ x ≤ 1099511627776 := by
  intro x hx
  obtain ⟨i, hi, rfl⟩ := List.getElem_of_mem hx
  have hi2 : i < p.fu.length := by rw [wOut_len] at hi; exact hi
  rw [wOut_at hi]
  split
  · rw [wf_at hi2]; exact F.fu0 _ (List.getElem_mem _)
  · omega
theorem plY_zero (p : Pol) (os : List Int) (need : Int) : plY p os need 0 = plX p os need os.length := by simp [plY]
theorem plZ_zero (p : Pol) (os : List Int) (need : Int) : plZ p os need 0 = planA p os need := by simp [plZ]
end Go.Proofs.Ytglpnpjjjihghaa
