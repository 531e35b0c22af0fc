/-
  The plain law of draws, one behind the other: what is there of a source behind the first so many.
-/
import Derived.Test.YtglpnpjjjihghaaLessLaw
namespace Go.Proofs.Ytglpnpjjjihghaa
open Go.RowKit

/-- Behind the first k draws, if all of them can be. -/
structure PreF (p : Pol) (l : List Dw) (k : Nat) (q : Pol) : Prop where
  ls : lsF p l = lsF q (l.drop k)
  all : AllOk q
  l1 : q.co.length = p.co.length
  l2 : q.fu.length = q.co.length
  th : ∀ a b, 0 ≤ thereV p a b → thereV q a b = thereV p a b - drwS (l.take k) a b
  no : ∀ a b, thereV p a b < 0 → thereV q a b < 0
  dr : ∀ a b, 0 ≤ thereV p a b → 0 ≤ drwS (l.take k) a b ∧ drwS (l.take k) a b ≤ thereV p a b
theorem there_top {q : Pol} (h0 : AllOk q) (hf : q.fu.length = q.co.length) (k m : Int) : thereV q k m ≤ 1099511627776 := by
  have hb : ∀ v ∈ q.co ++ q.fu ++ [q.line, q.cap], 0 ≤ v ∧ v ≤ 1099511627776 := h0
  by_cases ht : 0 ≤ thereV q k m
  · rcases src_cases ht with e | e | e | e
    · rw [e.2.2, there8 e.1 e.2.1]
      exact (hb _ (List.mem_append_left _ (List.mem_append_left _ (atI_mem e.1 e.2.1)))).2
    · rw [e.2.2, there9 e.1 e.2.1]
      exact (hb _ (List.mem_append_left _ (List.mem_append_right _ (atI_mem (l := q.fu) e.1 (by omega))))).2
    · rw [e.1, e.2, there3]
      exact (hb q.line (by simp)).2
    · rw [e.1, e.2, there4]
      exact (hb q.cap (by simp)).2
  · omega
theorem preF_zero {p : Pol} (l : List Dw) (h0 : AllOk p) (hf : p.fu.length = p.co.length) : PreF p l 0 p := by
  have hz : ∀ a b, drwS (l.take 0) a b = 0 := fun a b => rfl
  exact ⟨rfl, h0, rfl, hf, fun a b _ => by rw [hz]; omega, fun a b h => h, fun a b h => by rw [hz]; exact ⟨Int.le_refl _, h⟩⟩
/-- What the next draw comes to. -/
theorem PreF.next {p q : Pol} {l : List Dw} {k : Nat} (h : PreF p l k q) (hk : k < l.length) : lsF p l = if thereV p l[k].k l[k].m < 0 then (noP, 8) else if l[k].n < 0 then (noP, 1) else if thereV p l[k].k l[k].m - drwS (l.take k) l[k].k l[k].m < l[k].n then (noP, 12) else lsF (subP q l[k]) (l.drop (k + 1)) := by
  rw [h.ls, List.drop_eq_getElem_cons hk]
  unfold lsF
  by_cases ht : thereV p l[k].k l[k].m < 0
  · rw [if_pos ht, if_pos (h.no _ _ ht)]
  · have e := h.th _ _ (by omega : 0 ≤ thereV p l[k].k l[k].m)
    have d := h.dr _ _ (by omega : 0 ≤ thereV p l[k].k l[k].m)
    rw [if_neg ht, if_neg (by omega), e]
    cases hd : l.drop (k + 1) <;> rfl
theorem PreF.step {p q : Pol} {l : List Dw} {k : Nat} (h : PreF p l k q) (hp : AllOk p) (hpf : p.fu.length = p.co.length) (hk : k < l.length) (ht : 0 ≤ thereV p l[k].k l[k].m) (hn : 0 ≤ l[k].n) (hm : l[k].n ≤ thereV p l[k].k l[k].m - drwS (l.take k) l[k].k l[k].m) : PreF p l (k + 1) (subP q l[k]) := by
  have hN := h.next hk
  have e := h.th _ _ ht
  have hl := subP_len q l[k]
  have hsn := fun a b => drwS_snoc a b hk
  have hw : ∀ a b, 0 ≤ thereV p a b → l[k].k = a ∧ l[k].m = b → wrap64 (drwS (l.take k) a b + l[k].n) = drwS (l.take k) a b + l[k].n := fun a b hab hkey => by
    have d := h.dr a b hab
    have t := there_top hp hpf a b
    obtain ⟨h1, h2⟩ := hkey
    subst h1 h2
    unfold wrap64
    omega
  refine ⟨?_, allOk_sub h.l2 h.all ⟨hn, by omega⟩, hl.1.trans h.l1, by rw [hl.1, hl.2]; exact h.l2, fun a b hab => ?_, fun a b hab => ?_, fun a b hab => ?_⟩
  · rw [hN, if_neg (by omega), if_neg (by omega), if_neg (by omega)]
  · have e2 := h.th a b hab
    rw [there_sub h.l2 (by have := h.dr _ _ ht; omega), hsn]
    by_cases hkey : a = l[k].k ∧ b = l[k].m
    · rw [if_pos hkey, if_pos ⟨hkey.1.symm, hkey.2.symm⟩, hw a b hab ⟨hkey.1.symm, hkey.2.symm⟩]
      omega
    · rw [if_neg hkey, if_neg (by intro hh; exact hkey ⟨hh.1.symm, hh.2.symm⟩)]
      exact e2
  · rw [there_sub h.l2 (by have := h.dr _ _ ht; omega)]
    by_cases hkey : a = l[k].k ∧ b = l[k].m
    · obtain ⟨h1, h2⟩ := hkey
      subst h1 h2
      omega
    · rw [if_neg hkey]
      exact h.no a b hab
  · have d := h.dr a b hab
    rw [hsn]
    by_cases hkey : l[k].k = a ∧ l[k].m = b
    · rw [if_pos hkey, hw a b hab hkey]
      obtain ⟨h1, h2⟩ := hkey
      subst h1 h2
      omega
    · rw [if_neg hkey]
      exact d
/-- All of the first k can be: or that is told. -/
theorem lsF_err : ∀ (l : List Dw) (q : Pol), (lsF q l).2 ≠ 0 → (lsF q l).1 = noP
  | [], _, h => absurd rfl h
  | x :: l, q, h => by
    unfold lsF at h ⊢
    split
    · rfl
    · split
      · rfl
      · split
        · rfl
        · rename_i h1 h2 h3
          rw [if_neg h1, if_neg h2, if_neg h3] at h
          exact lsF_err l _ h
theorem lessF_err {p : Pol} {l : List Dw} (h : (lessF p l).2 ≠ 0) : (lessF p l).1 = noP := by
  unfold lessF at h ⊢
  split
  · rfl
  · rename_i h1
    rw [if_neg h1] at h
    exact lsF_err l p h
/-- If all can be, what is left. -/
theorem preF_all {p : Pol} {l : List Dw} (hp : AllOk p) (hpf : p.fu.length = p.co.length) (h : (lsF p l).2 = 0) : ∀ k, k ≤ l.length → ∃ q, PreF p l k q
  | 0, _ => ⟨p, preF_zero l hp hpf⟩
  | k + 1, hk => by
    obtain ⟨q, hq⟩ := preF_all hp hpf h k (by omega)
    have hN := hq.next (show k < l.length by omega)
    rw [hN] at h
    by_cases h1 : thereV p (l[k]'(by omega)).k (l[k]'(by omega)).m < 0
    · rw [if_pos h1] at h; cases h
    · rw [if_neg h1] at h
      by_cases h2 : (l[k]'(by omega)).n < 0
      · rw [if_pos h2] at h; cases h
      · rw [if_neg h2] at h
        by_cases h3 : thereV p (l[k]'(by omega)).k (l[k]'(by omega)).m - drwS (l.take k) (l[k]'(by omega)).k (l[k]'(by omega)).m < (l[k]'(by omega)).n
        · rw [if_pos h3] at h; cases h
        · exact ⟨_, hq.step hp hpf (by omega) (by omega) (by omega) (by omega)⟩
/-- What FallLess asks for, of what is left. -/
structure LeftF (p : Pol) (l : List Dw) (Q : Pol) : Prop where
  l1 : Q.co.length = p.co.length
  l2 : Q.fu.length = p.co.length
  co : ∀ m : Nat, m < p.co.length → wrap64 (atI p.co ((m : Int) + 1) - drwS l 8 ((m : Int) + 1)) = atI Q.co ((m : Int) + 1)
  fu : ∀ m : Nat, m < p.co.length → wrap64 (atI p.fu ((m : Int) + 1) - drwS l 9 ((m : Int) + 1)) = atI Q.fu ((m : Int) + 1)
  ln : wrap64 (p.line - drwS l 3 0) = Q.line
  cp : wrap64 (p.cap - drwS l 4 0) = Q.cap
theorem leftF_of {p : Pol} {l : List Dw} (h : (lessF p l).2 = 0) : LeftF p l (lessF p l).1 ∧ p.fu.length = p.co.length ∧ p.co.length ≤ 16 := by
  unfold lessF at h ⊢
  by_cases hpe : polE p = 0
  case neg =>
    rw [if_pos hpe] at h
    exact absurd h hpe
  rw [if_neg (by omega)] at h ⊢
  have hfit : p.co.length = p.fu.length ∧ p.co.length ≤ 16 ∧ AllOk p := by
    unfold polE at hpe
    by_cases hb : polB p = true
    · unfold polB at hb
      simp only [Bool.and_eq_true, decide_eq_true_eq, List.all_eq_true] at hb
      refine ⟨hb.1, hb.2.1, fun x hx => ?_⟩
      have := hb.2.2 x hx
      unfold okN at this
      simp only [Bool.and_eq_true, decide_eq_true_eq] at this
      exact this
    · rw [if_neg hb] at hpe
      cases hpe
  obtain ⟨h1, h2, h3⟩ := hfit
  obtain ⟨q, hq⟩ := preF_all h3 h1.symm h l.length (Nat.le_refl _)
  have e : lsF p l = (q, 0) := by rw [hq.ls, List.drop_length]; rfl
  have hth : ∀ a b, 0 ≤ thereV p a b → wrap64 (thereV p a b - drwS l a b) = thereV q a b := fun a b hab => by
    have t := hq.th a b hab
    have d := hq.dr a b hab
    have u := there_top h3 h1.symm a b
    rw [List.take_length] at t d
    rw [t]
    unfold wrap64
    omega
  have hb : ∀ v ∈ p.co ++ p.fu ++ [p.line, p.cap], 0 ≤ v ∧ v ≤ 1099511627776 := h3
  rw [e]
  refine ⟨⟨hq.l1, hq.l2.trans hq.l1, fun m hm => ?_, fun m hm => ?_, ?_, ?_⟩, h1.symm, h2⟩
  · have := hth 8 ((m : Int) + 1)
    rw [there8 (by omega) (by omega), there8 (by omega) (by have := hq.l1; omega)] at this
    exact this (hb _ (List.mem_append_left _ (List.mem_append_left _ (atI_mem (by omega) (by omega))))).1
  · have := hth 9 ((m : Int) + 1)
    rw [there9 (by omega) (by omega), there9 (by omega) (by have := hq.l1; omega)] at this
    exact this (hb _ (List.mem_append_left _ (List.mem_append_right _ (atI_mem (l := p.fu) (by omega) (by omega))))).1
  · have := hth 3 0
    rw [there3, there3] at this
    exact this (hb p.line (by simp)).1
  · have := hth 4 0
    rw [there4, there4] at this
    exact this (hb p.cap (by simp)).1
/-- The sum, stopped at the greatest. -/
theorem totV_snoc {L : List Dw} {k : Nat} (hk : k < L.length) : totV (L.take (k + 1)) = if 9223372036854775807 - totV (L.take k) < L[k].n then 9223372036854775807 else if 0 < L[k].n then totV (L.take k) + L[k].n else totV (L.take k) := by
  have hs := totS_snoc hk
  have h0 := totS_nonneg (L.take k)
  unfold totV
  by_cases c : totS (L.take k) ≤ 9223372036854775807
  · rw [if_pos c]
    by_cases d : 9223372036854775807 - totS (L.take k) < L[k].n
    · rw [if_pos d, if_neg (by omega)]
    · rw [if_neg d, if_pos (by omega)]
      by_cases e : 0 < L[k].n
      · rw [if_pos e]; omega
      · rw [if_neg e]; omega
  · rw [if_neg c, if_neg (by omega)]
    by_cases e : 0 < L[k].n
    · rw [if_pos (by omega)]
    · rw [if_neg (by omega), if_neg e]
theorem totV_bd (L : List Dw) : 0 ≤ totV L ∧ totV L ≤ 9223372036854775807 := by
  have h0 := totS_nonneg L
  unfold totV
  split <;> omega
end Go.Proofs.Ytglpnpjjjihghaa
