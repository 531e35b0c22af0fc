/-
  The plain law of FallPlans: what is drawn is what the document draws.
-/
import Derived.Test.YtglpnpjjjihghaaZeroLaw3
namespace Go.Proofs.Ytglpnpjjjihghaa
open Go.RowKit Go.Proofs.Ytglpnpjjjihghaa.StableLaw Go.Proofs.Ytglpnpjjjihghaa.ShareLaw

theorem wf_wOut {fu os : List Int} {i : Nat} (hi : i < fu.length) : wf (wOut fu os) i = if inW os i then wf (dwNs (othersL fu os)) (kpN (inW os) i) else 0 := by
  unfold wOut
  rw [wf_rowF hi]
  split
  · rename_i hin
    unfold othersL
    rw [others_wf _ (Nat.le_refl _) i hi hin]
  · rfl
theorem sum_wOut (fu os : List Int) : sumI (wOut fu os) = sumI (dwNs (othersL fu os)) := by
  have hlP : (wOut fu os).length = fu.length := by unfold wOut; rw [rowF_len]
  have hlQ : (dwNs (othersL fu os)).length = kpN (inW os) fu.length := by
    unfold dwNs othersL
    rw [List.length_map, others_len _ (Nat.le_refl _)]
  have hsP := sumN_wf (wOut fu os) fu.length (by omega)
  rw [← hlP, List.take_length, hlP] at hsP
  have hsQ := sumN_wf (dwNs (othersL fu os)) (kpN (inW os) fu.length) (by omega)
  rw [← hlQ, List.take_length, hlQ] at hsQ
  rw [← hsP, ← hsQ]
  exact sumN_keep _ fun i hi => wf_wOut hi
theorem chk_wOut {fu os : List Int} {nd : Int} (h : ∀ x ∈ fu, 0 ≤ x ∧ x ≤ 1099511627776) (hl : fu.length ≤ 1000) (hn : 0 ≤ nd) : chkE nd (wOut fu os) = 0 := by
  have hP : SrcOk ((List.range fu.length).map fun i => (⟨9, 0, if inW os i then wf fu i else 0⟩ : Dw)) := ⟨fun x hx => by
    obtain ⟨j, hj, rfl⟩ := List.mem_map.1 hx
    have hj := List.mem_range.1 hj
    show 0 ≤ (if inW os j then wf fu j else 0) ∧ (if inW os j then wf fu j else 0) ≤ 1099511627776
    split
    · rw [wf_at hj]; exact h _ (List.getElem_mem hj)
    · decide, by simpa using hl⟩
  have e : dwNs ((List.range fu.length).map fun i => (⟨9, 0, if inW os i then wf fu i else 0⟩ : Dw)) = wOut fu os := by
    unfold dwNs wOut rowF
    rw [List.map_map]
    rfl
  rw [← e]
  exact chk_src hP hn
/-- What the document draws. -/
def planA (p : Pol) (os : List Int) (need : Int) : List Dw × Int := os.foldl (tkS 9 (atI p.fu)) (os.foldl (tkS 8 (atI p.co)) ([], need))
def planB (p : Pol) (os : List Int) (need : Int) : List Dw × Int := (List.range p.fu.length).foldl (gvS (alL (planA p os need).2 (wOut p.fu os))) (planA p os need)
def planR (p : Pol) (os : List Int) (need : Int) : List Dw := tkL (tkL (planB p os need).1 3 0 p.line (planB p os need).2) 4 0 p.cap ((planB p os need).2 - min p.line (planB p os need).2)
/-- What is drawn is what the document draws. -/
theorem plan_law {p : Pol} {os : List Int} {need : Int} (h : mayE p os = 0) (hn : 0 ≤ need) (hI : I64 need) : (plF need (srcs p os)).2 = planR p os need := by
  have F := mayF_of h
  have hok := srcs_ok F
  have hln := F.all p.line (by simp [polL])
  have hcp := F.all p.cap (by simp [polL])
  have hco : ∀ x ∈ p.co, 0 ≤ x ∧ x ≤ 1099511627776 := fun x hx => F.all x (by simp [polL, hx])
  have hfu : ∀ x ∈ p.fu, 0 ≤ x ∧ x ≤ 1099511627776 := fun x hx => F.all x (by simp [polL, hx])
  have hbig := F.big
  have hlen := F.len
  have hQ : SrcOk (othersL p.fu os) := hok _ (by unfold srcs; simp)
  have hA : 0 ≤ (planA p os need).2 := tkS_nonneg 9 _ os _ (tkS_nonneg 8 _ os _ hn)
  have e1 := gl_ones 8 (atI p.co) os [] need (os.map (fun m => [⟨9, m, atI p.fu m⟩]) ++ [othersL p.fu os, [⟨3, 0, p.line⟩], [⟨4, 0, p.cap⟩]]) (fun m hm => hco _ (atI_mem (F.os1 m hm).1 (F.os1 m hm).2)) hn
  have e2 := gl_ones 9 (atI p.fu) os (os.foldl (tkS 8 (atI p.co)) ([], need)).1 (os.foldl (tkS 8 (atI p.co)) ([], need)).2 [othersL p.fu os, [⟨3, 0, p.line⟩], [⟨4, 0, p.cap⟩]] (fun m hm => hfu _ (atI_mem (F.os1 m hm).1 (by have := (F.os1 m hm).2; omega))) (tkS_nonneg 8 _ os _ hn)
  have cQ := chk_src hQ hA
  have GQ := given_of cQ
  have GP := given_of (chk_wOut (os := os) hfu (by omega) hA)
  have hlP : (alL (planA p os need).2 (wOut p.fu os)).length = p.fu.length := by rw [GP.len]; unfold wOut; rw [rowF_len]
  have hG : (alL (planA p os need).2 (dwNs (othersL p.fu os))).length = kpN (inW os) p.fu.length := by
    rw [GQ.len]
    unfold dwNs othersL
    rw [List.length_map, others_len _ (Nat.le_refl _)]
  have hb1 : (planB p os need).1 = (planA p os need).1 ++ giveL (othersL p.fu os) (planA p os need).2 := by
    have := given_draws hG (fun i hi => alL_keep hfu (by omega) hA hQ hi) (planA p os need).1 (planA p os need).2 p.fu.length (Nat.le_refl _)
    rw [← hG, List.take_length] at this
    exact this
  have hb2 : (planB p os need).2 = (planA p os need).2 - min (planA p os need).2 (sumI (dwNs (othersL p.fu os))) := by
    have := given_need (alL (planA p os need).2 (wOut p.fu os)) (planA p os need).1 (planA p os need).2 p.fu.length
    rw [sumN_wf _ _ (by omega), ← hlP, List.take_length, GP.sum, sum_wOut, hlP] at this
    exact this
  have hB0 : 0 ≤ (planB p os need).2 := by rw [hb2]; omega
  unfold plF
  rw [gl_plS _ _ _ hok hn hI]
  unfold srcs
  rw [List.append_assoc, e1, e2]
  show (planA p os need).1 ++ gl (planA p os need).2 _ = _
  show (planA p os need).1 ++ (giveL (othersL p.fu os) (planA p os need).2 ++ (giveL [⟨3, 0, p.line⟩] ((planA p os need).2 - min (planA p os need).2 (sumI (dwNs (othersL p.fu os)))) ++ (giveL [⟨4, 0, p.cap⟩] ((planA p os need).2 - min (planA p os need).2 (sumI (dwNs (othersL p.fu os))) - min ((planA p os need).2 - min (planA p os need).2 (sumI (dwNs (othersL p.fu os)))) (sumI (dwNs [(⟨3, 0, p.line⟩ : Dw)]))) ++ []))) = _
  rw [← List.append_assoc, ← hb1, ← hb2, show sumI (dwNs [(⟨3, 0, p.line⟩ : Dw)]) = p.line by simp [dwNs, sumI], give_one hln hB0, give_one hcp (by omega), List.append_nil, ← List.append_assoc, ← tkL_append, ← tkL_append, Int.min_comm]
  rfl
end Go.Proofs.Ytglpnpjjjihghaa
