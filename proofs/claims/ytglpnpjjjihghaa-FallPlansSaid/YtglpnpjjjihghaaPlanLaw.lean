/-
  The plain law of FallPlans, in part: sources that give alone.
-/
import Derived.Test.YtglpnpjjjihghaaRoomLaw
import Derived.Test.YtglpnpjjjihghaaFl16
namespace Go.Proofs.Ytglpnpjjjihghaa
open Go.RowKit

theorem tkL_append (l : List Dw) (k m th nd : Int) : tkL l k m th nd = l ++ tkL [] k m th nd := by
  unfold tkL
  split <;> simp
/-- A source that gives alone. -/
theorem give_one {k m n nd : Int} (h : 0 ≤ n ∧ n ≤ 1099511627776) (hn : 0 ≤ nd) : giveL [⟨k, m, n⟩] nd = tkL [] k m n nd := by
  have hS : SrcOk [⟨k, m, n⟩] := ⟨fun x hx => by simp at hx; subst hx; exact h, by simp⟩
  have G := given_of (chk_src hS hn)
  have hl : (alL nd (dwNs [⟨k, m, n⟩])).length = 1 := by rw [G.len]; rfl
  have hs : sumI (alL nd (dwNs [⟨k, m, n⟩])) = min nd n := by
    rw [G.sum]
    simp [dwNs, sumI]
  unfold giveL
  match alL nd (dwNs [⟨k, m, n⟩]), hl, hs with
  | [a], _, hs =>
    have ha : a = min n nd := by simp [sumI] at hs; omega
    rw [dwSome_cons]
    unfold tkL
    rw [ha]
    simp [dwSome]
/-- One more source that gives alone. -/
def tkS (k : Int) (f : Int → Int) (st : List Dw × Int) (m : Int) : List Dw × Int := (tkL st.1 k m (f m) st.2, st.2 - min (f m) st.2)
theorem tkS_nonneg (k : Int) (f : Int → Int) : ∀ (os : List Int) (st : List Dw × Int), 0 ≤ st.2 → 0 ≤ (os.foldl (tkS k f) st).2
  | [], _, h => h
  | m :: os, st, h => by
    rw [List.foldl_cons]
    exact tkS_nonneg k f os _ (by show 0 ≤ st.2 - min (f m) st.2; omega)
theorem gl_ones (k : Int) (f : Int → Int) : ∀ (os : List Int) (l : List Dw) (nd : Int) (ys : List (List Dw)), (∀ m ∈ os, 0 ≤ f m ∧ f m ≤ 1099511627776) → 0 ≤ nd →
    l ++ gl nd (os.map (fun m => [⟨k, m, f m⟩]) ++ ys) = (os.foldl (tkS k f) (l, nd)).1 ++ gl (os.foldl (tkS k f) (l, nd)).2 ys
  | [], _, _, _, _, _ => rfl
  | m :: os, l, nd, ys, h, hn => by
    have hm := h m (List.mem_cons_self ..)
    have hs : sumI (dwNs [(⟨k, m, f m⟩ : Dw)]) = f m := by simp [dwNs, sumI]
    rw [List.map_cons, List.cons_append, List.foldl_cons]
    show l ++ (giveL [⟨k, m, f m⟩] nd ++ gl (nd - min nd (sumI (dwNs [(⟨k, m, f m⟩ : Dw)]))) _) = _
    rw [give_one hm hn, hs, ← List.append_assoc, ← tkL_append, Int.min_comm]
    exact gl_ones k f os _ _ ys (fun m' hm' => h m' (List.mem_cons_of_mem _ hm')) (by omega)
end Go.Proofs.Ytglpnpjjjihghaa
