/-
  The plain law of parts where some weights are nothing, at the members who are not out.
-/
import Derived.Test.YtglpnpjjjihghaaZeroLaw
namespace Go.Proofs.Ytglpnpjjjihghaa
open Go.RowKit Go.Proofs.Ytglpnpjjjihghaa.StableLaw Go.Proofs.Ytglpnpjjjihghaa.ShareLaw

/-- Who is not out is kept. -/
def inW (os : List Int) (i : Nat) : Bool := !os.contains ((i : Int) + 1)
theorem others_len {fu os : List Int} : ∀ k, k ≤ fu.length → (othersN fu os k).length = kpN (inW os) k
  | 0, _ => rfl
  | k + 1, hk => by
    have ih := others_len (fu := fu) (os := os) k (by omega)
    rw [othersN_succ (show k < fu.length by omega) _ rfl, List.length_append, ih]
    show _ = kpN (inW os) k + (if inW os k then 1 else 0)
    unfold inW
    cases os.contains ((k : Int) + 1) <;> rfl
theorem others_wf {fu os : List Int} : ∀ k, k ≤ fu.length → ∀ i, i < k → inW os i = true → wf (dwNs (othersN fu os k)) (kpN (inW os) i) = wf fu i
  | 0, _, _, h, _ => absurd h (Nat.not_lt_zero _)
  | k + 1, hk, i, hi, hin => by
    have hl := others_len (fu := fu) (os := os) k (by omega)
    rw [othersN_succ (show k < fu.length by omega) _ rfl]
    have hlm : (dwNs (othersN fu os k)).length = kpN (inW os) k := by unfold dwNs; rw [List.length_map, hl]
    by_cases e : i = k
    · subst e
      have hc : os.contains ((i : Int) + 1) = false := by unfold inW at hin; simpa using hin
      have hif : i < fu.length := by omega
      rw [hc, if_neg (by simp)]
      unfold wf
      rw [← hlm]
      unfold dwNs
      rw [List.map_append, List.getD_eq_getElem?_getD, List.getElem?_append_right (by simp), List.getD_eq_getElem?_getD, List.getElem?_eq_getElem hif]
      simp
    · have ih := others_wf (fu := fu) (os := os) k (by omega) i (by omega) hin
      have hlt := kpN_lt (keep := inW os) (show i < k by omega) hin
      rw [← ih]
      unfold wf
      have : (dwNs (othersN fu os k)).length > kpN (inW os) i := by omega
      unfold dwNs at this ⊢
      rw [List.map_append, List.getD_eq_getElem?_getD, List.getElem?_append_left this, List.getD_eq_getElem?_getD]
theorem wf_rowF {n : Nat} {f : Nat → Int} {i : Nat} (h : i < n) : wf (rowF n f) i = f i := by
  rw [wf_at (show i < (rowF n f).length by rw [rowF_len]; exact h), rowF_at]
theorem wf_repl (n i : Nat) : wf (List.replicate n 0) i = 0 := by
  unfold wf
  rw [List.getD_eq_getElem?_getD, List.getElem?_replicate]
  split <;> rfl
/-- The weights, with nothing for who is out. -/
def wOut (fu os : List Int) : List Int := rowF fu.length fun i => if inW os i then wf fu i else 0
/-- Allocating among all, with nothing for who is out, is allocating among the others. -/
theorem alL_keep {fu os : List Int} {nd : Int} (h : ∀ x ∈ fu, 0 ≤ x ∧ x ≤ 1099511627776) (hl : fu.length ≤ 1000) (hn : 0 ≤ nd) (hQ : SrcOk (othersL fu os)) {i : Nat} (hi : i < fu.length) :
    wf (alL nd (wOut fu os)) i = if inW os i then wf (alL nd (dwNs (othersL fu os))) (kpN (inW os) i) else 0 := by
  have cQ := chk_src hQ hn
  have cP : chkE nd (wOut fu os) = 0 := by
    have hP : SrcOk ((List.range fu.length).map fun i => (⟨9, 0, if inW os i then wf fu i else 0⟩ : Dw)) := ⟨fun x hx => by
      obtain ⟨j, hj, rfl⟩ := List.mem_map.1 hx
      have hj := List.mem_range.1 hj
      show 0 ≤ (if inW os j then wf fu j else 0) ∧ (if inW os j then wf fu j else 0) ≤ 1099511627776
      split
      · rw [wf_at hj]; exact h _ (List.getElem_mem hj)
      · decide, by simpa using hl⟩
    have e : dwNs ((List.range fu.length).map fun i => (⟨9, 0, if inW os i then wf fu i else 0⟩ : Dw)) = wOut fu os := by
      unfold dwNs wOut rowF
      rw [List.map_map]
      rfl
    rw [← e]
    exact chk_src hP hn
  have hlP : (wOut fu os).length = fu.length := by unfold wOut; rw [rowF_len]
  have hlQ : (dwNs (othersL fu os)).length = kpN (inW os) fu.length := by
    unfold dwNs othersL
    rw [List.length_map, others_len _ (Nat.le_refl _)]
  have hW : ∀ i, i < fu.length → wf (wOut fu os) i = if inW os i then wf (dwNs (othersL fu os)) (kpN (inW os) i) else 0 := fun i hi => by
    unfold wOut
    rw [wf_rowF hi]
    split
    · rename_i hin
      unfold othersL
      rw [others_wf _ (Nat.le_refl _) i hi hin]
    · rfl
  have hsP := sumN_wf (wOut fu os) fu.length (by omega)
  rw [← hlP, List.take_length, hlP] at hsP
  have hsQ := sumN_wf (dwNs (othersL fu os)) (kpN (inW os) fu.length) (by omega)
  rw [← hlQ, List.take_length, hlQ] at hsQ
  have hS : sumI (wOut fu os) = sumI (dwNs (othersL fu os)) := by rw [← hsP, ← hsQ]; exact sumN_keep _ hW
  have hkl : inW os i = true → kpN (inW os) i < kpN (inW os) fu.length := fun hin => kpN_lt hi hin
  rcases (al_cases cP).2 with ⟨a, e⟩ | ⟨a, b, e⟩ | ⟨a, b, e⟩ <;> rcases (al_cases cQ).2 with ⟨a', e'⟩ | ⟨a', b', e'⟩ | ⟨a', b', e'⟩ <;> first | (exfalso; omega) | skip
  · rw [e, e']; exact hW i hi
  · rw [e, e', wf_repl, wf_repl]; simp
  · rw [e, e', hlP, hlQ, wf_rowF hi, ← hS, part_keep (by omega) hsP hW hi]
    split
    · rename_i hin
      rw [wf_rowF (hkl hin)]
    · rfl
end Go.Proofs.Ytglpnpjjjihghaa
