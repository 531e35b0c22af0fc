/-
  The plain law of FallPlans: what the others give, as the document's loop draws it.
-/
import Derived.Test.YtglpnpjjjihghaaZeroLaw2
namespace Go.Proofs.Ytglpnpjjjihghaa
open Go.RowKit Go.Proofs.Ytglpnpjjjihghaa.StableLaw Go.Proofs.Ytglpnpjjjihghaa.ShareLaw

/-- One more that is given. -/
def gvS (g : List Int) (st : List Dw × Int) (i : Nat) : List Dw × Int := (tkL st.1 9 ((i : Int) + 1) (wf g i) (wf g i), st.2 - wf g i)
theorem dwSome_app {a : List Dw} {b : List Int} (h : a.length = b.length) (x : Dw) (z : Int) : dwSome (a ++ [x]) (b ++ [z]) = dwSome a b ++ if 0 < z then [⟨x.k, x.m, z⟩] else [] := by
  unfold dwSome
  rw [List.zipWith_append h, List.filter_append]
  congr 1
  by_cases hz : 0 < z
  · simp [hz]
  · simp [hz]
theorem tk_self (l : List Dw) (m z : Int) : tkL l 9 m z z = l ++ if 0 < z then [⟨9, m, z⟩] else [] := by
  unfold tkL
  rw [show min z z = z by omega]
  split <;> simp
theorem given_draws {fu os G g : List Int} (hG : G.length = kpN (inW os) fu.length) (hg : ∀ i, i < fu.length → wf g i = if inW os i then wf G (kpN (inW os) i) else 0) (l : List Dw) (nd : Int) :
    ∀ k, k ≤ fu.length → ((List.range k).foldl (gvS g) (l, nd)).1 = l ++ dwSome (othersN fu os k) (G.take (kpN (inW os) k))
  | 0, _ => by simp [dwSome, othersN]
  | k + 1, hk => by
    have ih := given_draws hG hg l nd k (by omega)
    have hl := others_len (fu := fu) (os := os) k (by omega)
    have hgk := hg k (by omega)
    rw [List.range_succ, List.foldl_append, List.foldl_cons, List.foldl_nil]
    show tkL ((List.range k).foldl (gvS g) (l, nd)).1 9 ((k : Int) + 1) (wf g k) (wf g k) = _
    rw [ih, tk_self, hgk, othersN_succ (show k < fu.length by omega) _ rfl]
    have hkp : kpN (inW os) (k + 1) = kpN (inW os) k + (if inW os k then 1 else 0) := rfl
    have hle := kpN_mono (inW os) k fu.length (by omega)
    cases hc : os.contains ((k : Int) + 1) with
    | true =>
      have hin : inW os k = false := by unfold inW; rw [hc]; rfl
      rw [hkp, hin]
      simp
    | false =>
      have hin : inW os k = true := by unfold inW; rw [hc]; rfl
      have hlt := kpN_lt (keep := inW os) (show k < fu.length by omega) hin
      have hGl : kpN (inW os) k < G.length := by omega
      rw [hkp, hin, if_pos rfl, if_pos rfl, if_neg (show ¬ (false = true) by decide), List.take_succ_eq_append_getElem hGl, dwSome_app (by rw [hl, List.length_take]; omega), List.append_assoc, wf_at hGl]
/-- What is lacking behind what was given. -/
theorem given_need (g : List Int) (l : List Dw) (nd : Int) : ∀ k, ((List.range k).foldl (gvS g) (l, nd)).2 = nd - sumN (wf g) k
  | 0 => by simp [sumN]
  | k + 1 => by
    rw [List.range_succ, List.foldl_append, List.foldl_cons, List.foldl_nil]
    show ((List.range k).foldl (gvS g) (l, nd)).2 - wf g k = nd - (sumN (wf g) k + wf g k)
    rw [given_need g l nd k]
    omega
end Go.Proofs.Ytglpnpjjjihghaa
