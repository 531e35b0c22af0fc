/-
  Steps towards the walk of complineref23.Plan: the fold of tkS, one by one.
-/
import Derived.Test.YtglpnpjjjihghaaPlanLaw2
import Derived.Deep.RegionHeld3
namespace Go.Proofs.Ytglpnpjjjihghaa
open Go.RowKit

theorem tkS_take (k : Int) (f : Int → Int) (st : List Dw × Int) {os : List Int} {j : Nat} (hj : j < os.length) : (os.take (j + 1)).foldl (tkS k f) st = tkS k f ((os.take j).foldl (tkS k f) st) os[j] := by
  rw [List.take_succ_eq_append_getElem hj, List.foldl_append]
  rfl
theorem tkS_len (k : Int) (f : Int → Int) : ∀ (os : List Int) (st : List Dw × Int), (os.foldl (tkS k f) st).1.length ≤ st.1.length + os.length
  | [], _ => Nat.le_refl _
  | m :: os, st => by
    have := tkS_len k f os (tkS k f st m)
    have h1 : (tkS k f st m).1.length ≤ st.1.length + 1 := by unfold tkS tkL; split <;> simp
    rw [List.foldl_cons, List.length_cons]
    omega
theorem tkS_up (k : Int) (f : Int → Int) : ∀ (os : List Int) (st : List Dw × Int) (M : Int), (∀ m ∈ os, 0 ≤ f m) → 0 ≤ st.2 → st.2 ≤ M → (os.foldl (tkS k f) st).2 ≤ M
  | [], _, _, _, _, h => h
  | m :: os, st, M, hf, h0, h => by
    rw [List.foldl_cons]
    have := hf m (List.mem_cons_self ..)
    exact tkS_up k f os _ M (fun m' hm => hf m' (List.mem_cons_of_mem _ hm)) (by show 0 ≤ st.2 - min (f m) st.2; omega) (by show st.2 - min (f m) st.2 ≤ M; omega)
end Go.Proofs.Ytglpnpjjjihghaa
