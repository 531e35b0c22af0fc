/-
  The plain law of a pool without what is drawn.
-/
import Derived.Test.YtglpnpjjjihghaaOrdLaw3
import Derived.Test.YtglpnpjjjihghaaRoomLaw
namespace Go.Proofs.Ytglpnpjjjihghaa
open Go.RowKit

/-- A pool without what one draw takes. -/
def subP (q : Pol) (x : Dw) : Pol :=
  if 1 ≤ x.m ∧ x.m ≤ q.co.length ∧ x.k = 8 then { q with co := q.co.set (x.m - 1).toNat (atI q.co x.m - x.n) }
  else if 1 ≤ x.m ∧ x.m ≤ q.co.length ∧ x.k = 9 then { q with fu := q.fu.set (x.m - 1).toNat (atI q.fu x.m - x.n) }
  else if x.m = 0 ∧ x.k = 3 then { q with line := q.line - x.n }
  else { q with cap := q.cap - x.n }
def noP : Pol := ⟨[], none, 0, [], none, 0, 0, 0⟩
def lsF : Pol → List Dw → Pol × Int
  | q, [] => (q, 0)
  | q, x :: l => if thereV q x.k x.m < 0 then (noP, 8) else if x.n < 0 then (noP, 1) else if thereV q x.k x.m < x.n then (noP, 12) else lsF (subP q x) l
def lessF (p : Pol) (l : List Dw) : Pol × Int := if polE p ≠ 0 then (noP, polE p) else lsF p l
/-- Which source. -/
theorem src_cases {q : Pol} {k m : Int} (h : 0 ≤ thereV q k m) : (1 ≤ m ∧ m ≤ q.co.length ∧ k = 8) ∨ (1 ≤ m ∧ m ≤ q.co.length ∧ k = 9) ∨ (m = 0 ∧ k = 3) ∨ (m = 0 ∧ k = 4) := by
  unfold thereV at h
  by_cases h1 : 1 ≤ m ∧ m ≤ q.co.length ∧ k = 8
  · exact .inl h1
  · by_cases h2 : 1 ≤ m ∧ m ≤ q.co.length ∧ k = 9
    · exact .inr (.inl h2)
    · by_cases h3 : m = 0 ∧ k = 3
      · exact .inr (.inr (.inl h3))
      · by_cases h4 : m = 0 ∧ k = 4
        · exact .inr (.inr (.inr h4))
        · rw [if_neg h1, if_neg h2, if_neg h3, if_neg h4] at h
          omega
theorem sub8 {q : Pol} {x : Dw} (h : 1 ≤ x.m ∧ x.m ≤ q.co.length ∧ x.k = 8) : subP q x = { q with co := q.co.set (x.m - 1).toNat (atI q.co x.m - x.n) } := by unfold subP; rw [if_pos h]
theorem sub9 {q : Pol} {x : Dw} (h : 1 ≤ x.m ∧ x.m ≤ q.co.length ∧ x.k = 9) : subP q x = { q with fu := q.fu.set (x.m - 1).toNat (atI q.fu x.m - x.n) } := by unfold subP; rw [if_neg (by omega), if_pos h]
theorem sub3 {q : Pol} {x : Dw} (h : x.m = 0 ∧ x.k = 3) : subP q x = { q with line := q.line - x.n } := by unfold subP; rw [if_neg (by omega), if_neg (by omega), if_pos h]
theorem sub4 {q : Pol} {x : Dw} (h : x.m = 0 ∧ x.k = 4) : subP q x = { q with cap := q.cap - x.n } := by unfold subP; rw [if_neg (by omega), if_neg (by omega), if_neg (by omega)]
theorem subP_len (q : Pol) (x : Dw) : (subP q x).co.length = q.co.length ∧ (subP q x).fu.length = q.fu.length := by
  unfold subP
  split
  · exact ⟨List.length_set, rfl⟩
  · split
    · exact ⟨rfl, List.length_set⟩
    · split <;> exact ⟨rfl, rfl⟩
theorem atI_set {l : List Int} {m v m' : Int} (h1 : 1 ≤ m) (h2 : m ≤ l.length) (h3 : 1 ≤ m') : atI (l.set (m - 1).toNat v) m' = if m' = m then v else atI l m' := by
  unfold atI
  rw [List.getD_eq_getElem?_getD, List.getElem?_set, List.getD_eq_getElem?_getD]
  by_cases e : m' = m
  · rw [if_pos e, if_pos (by rw [e]), if_pos (by omega)]
    rfl
  · rw [if_neg e, if_neg (by omega)]
theorem there_sub {q : Pol} {x : Dw} (hf : q.fu.length = q.co.length) (hx : 0 ≤ thereV q x.k x.m) (k m : Int) : thereV (subP q x) k m = if k = x.k ∧ m = x.m then thereV q k m - x.n else thereV q k m := by
  rcases src_cases hx with h | h | h | h
  · obtain ⟨h1, h2, h3⟩ := h
    rw [sub8 ⟨h1, h2, h3⟩]
    unfold thereV
    simp only [List.length_set]
    by_cases c1 : 1 ≤ m ∧ m ≤ q.co.length ∧ k = 8
    · rw [if_pos c1, if_pos c1, atI_set h1 h2 c1.1]
      by_cases e : m = x.m
      · rw [if_pos e, if_pos (show k = x.k ∧ m = x.m from ⟨by rw [c1.2.2, h3], e⟩), e]
      · rw [if_neg e, if_neg (show ¬ (k = x.k ∧ m = x.m) by intro hh; exact e hh.2)]
    · rw [if_neg c1, if_neg c1, if_neg (show ¬ (k = x.k ∧ m = x.m) by intro hh; exact c1 ⟨by omega, by omega, by omega⟩)]
  · obtain ⟨h1, h2, h3⟩ := h
    rw [sub9 ⟨h1, h2, h3⟩]
    unfold thereV
    by_cases c1 : 1 ≤ m ∧ m ≤ q.co.length ∧ k = 8
    · rw [if_pos c1, if_pos c1, if_neg (show ¬ (k = x.k ∧ m = x.m) by intro hh; omega)]
    · rw [if_neg c1, if_neg c1]
      by_cases c2 : 1 ≤ m ∧ m ≤ q.co.length ∧ k = 9
      · rw [if_pos c2, if_pos c2, atI_set h1 (by omega) c2.1]
        by_cases e : m = x.m
        · rw [if_pos e, if_pos (show k = x.k ∧ m = x.m from ⟨by rw [c2.2.2, h3], e⟩), e]
        · rw [if_neg e, if_neg (show ¬ (k = x.k ∧ m = x.m) by intro hh; exact e hh.2)]
      · rw [if_neg c2, if_neg c2, if_neg (show ¬ (k = x.k ∧ m = x.m) by intro hh; exact c2 ⟨by omega, by omega, by omega⟩)]
  · rw [sub3 h]
    unfold thereV
    dsimp only
    by_cases c1 : 1 ≤ m ∧ m ≤ q.co.length ∧ k = 8
    · rw [if_pos c1, if_pos c1, if_neg (show ¬ (k = x.k ∧ m = x.m) by intro hh; omega)]
    · rw [if_neg c1, if_neg c1]
      by_cases c2 : 1 ≤ m ∧ m ≤ q.co.length ∧ k = 9
      · rw [if_pos c2, if_pos c2, if_neg (show ¬ (k = x.k ∧ m = x.m) by intro hh; omega)]
      · rw [if_neg c2, if_neg c2]
        by_cases c3 : m = 0 ∧ k = 3
        · rw [if_pos c3, if_pos c3, if_pos (show k = x.k ∧ m = x.m from ⟨by omega, by omega⟩)]
        · rw [if_neg c3, if_neg c3, if_neg (show ¬ (k = x.k ∧ m = x.m) by intro hh; exact c3 ⟨by omega, by omega⟩)]
  · rw [sub4 h]
    unfold thereV
    dsimp only
    by_cases c1 : 1 ≤ m ∧ m ≤ q.co.length ∧ k = 8
    · rw [if_pos c1, if_pos c1, if_neg (show ¬ (k = x.k ∧ m = x.m) by intro hh; omega)]
    · rw [if_neg c1, if_neg c1]
      by_cases c2 : 1 ≤ m ∧ m ≤ q.co.length ∧ k = 9
      · rw [if_pos c2, if_pos c2, if_neg (show ¬ (k = x.k ∧ m = x.m) by intro hh; omega)]
      · rw [if_neg c2, if_neg c2]
        by_cases c3 : m = 0 ∧ k = 3
        · rw [if_pos c3, if_pos c3, if_neg (show ¬ (k = x.k ∧ m = x.m) by intro hh; omega)]
        · rw [if_neg c3, if_neg c3]
          by_cases c4 : m = 0 ∧ k = 4
          · rw [if_pos c4, if_pos c4, if_pos (show k = x.k ∧ m = x.m from ⟨by omega, by omega⟩)]
          · rw [if_neg c4, if_neg c4, if_neg (show ¬ (k = x.k ∧ m = x.m) by intro hh; exact c4 ⟨by omega, by omega⟩)]
/-- Draws of sources that are each drawn of once, and have enough, can be. -/
theorem lsF_fit : ∀ (l : List Dw) (q : Pol), q.fu.length = q.co.length → (l.Pairwise fun x x' => ¬ (x.k = x'.k ∧ x.m = x'.m)) → (∀ z ∈ l, 0 ≤ z.n ∧ z.n ≤ thereV q z.k z.m) → lsF q l = (l.foldl subP q, 0)
  | [], _, _, _, _ => rfl
  | x :: l, q, hf, hp, h => by
    obtain ⟨h1, h2⟩ := h x (List.mem_cons_self ..)
    obtain ⟨hx, hp'⟩ := List.pairwise_cons.1 hp
    unfold lsF
    rw [if_neg (by omega), if_neg (by omega), if_neg (by omega), List.foldl_cons]
    refine lsF_fit l _ (by rw [(subP_len q x).1, (subP_len q x).2]; exact hf) hp' fun z hz => ?_
    rw [there_sub hf (by omega), if_neg (by intro hh; exact hx z hz ⟨hh.1.symm, hh.2.symm⟩)]
    exact h z (List.mem_cons_of_mem _ hz)
theorem fold_len (l : List Dw) : ∀ q : Pol, (l.foldl subP q).co.length = q.co.length ∧ (l.foldl subP q).fu.length = q.fu.length := by
  induction l with
  | nil => intro q; exact ⟨rfl, rfl⟩
  | cons x l ih =>
    intro q
    rw [List.foldl_cons]
    exact ⟨(ih _).1.trans (subP_len q x).1, (ih _).2.trans (subP_len q x).2⟩
/-- All amounts of a pool may be. -/
def AllOk (q : Pol) : Prop := ∀ x ∈ polL q, 0 ≤ x ∧ x ≤ 1099511627776
theorem allOk_sub {q : Pol} {x : Dw} (hf : q.fu.length = q.co.length) (h : AllOk q) (hx : 0 ≤ x.n ∧ x.n ≤ thereV q x.k x.m) : AllOk (subP q x) := by
  have hb : ∀ v ∈ q.co ++ q.fu ++ [q.line, q.cap], 0 ≤ v ∧ v ≤ 1099511627776 := h
  have key : 0 ≤ thereV q x.k x.m := by omega
  intro v hv
  rcases src_cases key with g | g | g | g
  · have ht : thereV q x.k x.m = atI q.co x.m := by rw [g.2.2]; exact there8 g.1 g.2.1
    have hm := hb _ (List.mem_append_left _ (List.mem_append_left _ (atI_mem g.1 g.2.1)))
    rw [sub8 g] at hv
    unfold polL at hv
    dsimp only at hv
    rcases List.mem_append.1 hv with hv | hv
    · rcases List.mem_append.1 hv with hv | hv
      · rcases List.mem_or_eq_of_mem_set hv with hv | hv
        · exact hb _ (List.mem_append_left _ (List.mem_append_left _ hv))
        · omega
      · exact hb _ (List.mem_append_left _ (List.mem_append_right _ hv))
    · exact hb _ (List.mem_append_right _ hv)
  · have ht : thereV q x.k x.m = atI q.fu x.m := by rw [g.2.2]; exact there9 g.1 g.2.1
    have hm := hb _ (List.mem_append_left _ (List.mem_append_right _ (atI_mem (l := q.fu) g.1 (by omega))))
    rw [sub9 g] at hv
    unfold polL at hv
    dsimp only at hv
    rcases List.mem_append.1 hv with hv | hv
    · rcases List.mem_append.1 hv with hv | hv
      · exact hb _ (List.mem_append_left _ (List.mem_append_left _ hv))
      · rcases List.mem_or_eq_of_mem_set hv with hv | hv
        · exact hb _ (List.mem_append_left _ (List.mem_append_right _ hv))
        · omega
    · exact hb _ (List.mem_append_right _ hv)
  · have ht : thereV q x.k x.m = q.line := by rw [g.1, g.2]; exact there3 q
    have hm := hb q.line (by simp)
    have hm2 := hb q.cap (by simp)
    rw [sub3 g] at hv
    unfold polL at hv
    dsimp only at hv
    rcases List.mem_append.1 hv with hv | hv
    · exact hb _ (List.mem_append_left _ hv)
    · simp at hv
      rcases hv with rfl | rfl
      · omega
      · exact hm2
  · have ht : thereV q x.k x.m = q.cap := by rw [g.1, g.2]; exact there4 q
    have hm := hb q.cap (by simp)
    have hm2 := hb q.line (by simp)
    rw [sub4 g] at hv
    unfold polL at hv
    dsimp only at hv
    rcases List.mem_append.1 hv with hv | hv
    · exact hb _ (List.mem_append_left _ hv)
    · simp at hv
      rcases hv with rfl | rfl
      · exact hm2
      · omega
theorem allOk_polE {q : Pol} (h1 : q.co.length = q.fu.length) (h2 : q.co.length ≤ 16) (h : AllOk q) : polE q = 0 := polE_good h1 h2 fun k hk => by
  have := h _ (List.getElem_mem hk)
  unfold okN
  rw [decide_eq_true this.1, decide_eq_true this.2]
  rfl
/-- One summand lessened. -/
theorem fuS_set {l : List Int} {m v : Int} (h1 : 1 ≤ m) (h2 : m ≤ l.length) : ∀ k : Nat, fuS (l.set (m - 1).toNat v) k = if m ≤ k then fuS l k - atI l m + v else fuS l k
  | 0 => by rw [if_neg (by omega)]; rfl
  | k + 1 => by
    unfold fuS
    rw [fuS_set h1 h2 k, atI_set h1 h2 (by omega)]
    by_cases c : m ≤ (k : Int)
    · rw [if_pos c, if_neg (by omega), if_pos (by omega)]; omega
    · by_cases c2 : (k : Int) + 1 = m
      · rw [if_neg c, if_pos c2, if_pos (by omega), c2]; omega
      · rw [if_neg c, if_neg c2, if_neg (by omega)]
theorem pkS_set {l os : List Int} {m v : Int} (h1 : 1 ≤ m) (h2 : m ≤ l.length) (ho : os.contains m = true) : ∀ k : Nat, pkS (atI (l.set (m - 1).toNat v)) os k = if m ≤ k then pkS (atI l) os k - atI l m + v else pkS (atI l) os k
  | 0 => by rw [if_neg (by omega)]; rfl
  | k + 1 => by
    unfold pkS
    rw [pkS_set h1 h2 ho k, atI_set h1 h2 (by omega)]
    by_cases c : m ≤ (k : Int)
    · rw [if_pos c, if_neg (show ¬ (k : Int) + 1 = m by omega), if_pos (show m ≤ ((k + 1 : Nat) : Int) by omega)]; omega
    · by_cases c2 : (k : Int) + 1 = m
      · rw [if_neg c, if_pos c2, if_pos (show m ≤ ((k + 1 : Nat) : Int) by omega), c2, if_pos ho, if_pos ho]; omega
      · rw [if_neg c, if_neg c2, if_neg (show ¬ m ≤ ((k + 1 : Nat) : Int) by omega)]
theorem rr_sub {q : Pol} {x : Dw} {os : List Int} (hf : q.fu.length = q.co.length) (hx : 0 ≤ thereV q x.k x.m) (ho : x.k = 8 → os.contains x.m = true) : rrN (subP q x) os q.co.length = rrN q os q.co.length - x.n := by
  rw [rrN_eq, rrN_eq]
  rcases src_cases hx with g | g | g | g
  · rw [sub8 g]
    dsimp only
    rw [pkS_set g.1 g.2.1 (ho g.2.2), if_pos g.2.1]
    omega
  · rw [sub9 g]
    dsimp only
    rw [fuS_set g.1 (by omega), if_pos g.2.1]
    omega
  · rw [sub3 g]
    dsimp only
    omega
  · rw [sub4 g]
    dsimp only
    omega
/-- What is left of a pool behind draws that can be. -/
theorem left_law : ∀ (l : List Dw) (q : Pol) (os : List Int), q.fu.length = q.co.length → AllOk q → (l.Pairwise fun x x' => ¬ (x.k = x'.k ∧ x.m = x'.m)) → (∀ z ∈ l, 0 ≤ z.n ∧ z.n ≤ thereV q z.k z.m ∧ (z.k = 8 → os.contains z.m = true)) →
    AllOk (l.foldl subP q) ∧ rrN (l.foldl subP q) os q.co.length = rrN q os q.co.length - totS l
  | [], q, os, _, ha, _, _ => ⟨ha, by simp [totS]⟩
  | x :: l, q, os, hf, ha, hp, h => by
    obtain ⟨h1, h2, h3⟩ := h x (List.mem_cons_self ..)
    obtain ⟨hx, hp'⟩ := List.pairwise_cons.1 hp
    have hl := subP_len q x
    rw [List.foldl_cons]
    obtain ⟨i1, i2⟩ := left_law l (subP q x) os (by rw [hl.1, hl.2]; exact hf) (allOk_sub hf ha ⟨h1, h2⟩) hp' fun z hz => by
      obtain ⟨j1, j2, j3⟩ := h z (List.mem_cons_of_mem _ hz)
      rw [there_sub hf (by omega), if_neg (by intro hh; exact hx z hz ⟨hh.1.symm, hh.2.symm⟩)]
      exact ⟨j1, j2, j3⟩
    refine ⟨i1, ?_⟩
    rw [hl.1] at i2
    have ht : totS (x :: l) = max x.n 0 + totS l := by simp [totS]
    rw [i2, rr_sub hf (by omega) h3, ht]
    omega
end Go.Proofs.Ytglpnpjjjihghaa
