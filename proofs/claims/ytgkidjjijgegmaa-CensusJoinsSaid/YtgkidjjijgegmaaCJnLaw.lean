/-
  Two censuses joined, in plain Lean: kinds, and the sums out of two lists of tallies.
-/
import Derived.Test.YtgkidjjijgegmaaCnDef
namespace Go.Proofs.Ytgkidjjijgegmaa
open Go.RowKit

theorem gE_append (a b : List Ev) (q : Int × Int) (j : Nat) : gE (a ++ b) q j = gE a q j + gE b q j := by
  unfold gE colF
  rw [List.flatMap_append, sumI_append]
theorem many_append (a b : List Ev) (j : Int) : manyE (a ++ b) j = manyE a j + manyE b j := by
  unfold manyE
  rw [List.filter_append, List.length_append]
  omega
theorem talG_append (a b : List Tl) (q : Int × Int) (j : Nat) : talG (a ++ b) q j = talG a q j + talG b q j := by
  unfold talG
  rw [List.filter_append, List.map_append, sumI_append]
/-- The amounts of a side's column, out of tallies: what the join's map holds. -/
def tcol (T : List Tl) (q : Int × Int) (j : Nat) : List Int := (T.filter fun t => decide (t.q = q)).map fun t => t.row[j]?.getD 0
theorem tcol_sum (T : List Tl) (q : Int × Int) (j : Nat) : sumI (tcol T q j) = talG T q j := rfl
theorem tcol_snoc {T : List Tl} {k : Nat} (hk : k < T.length) (q : Int × Int) (j : Nat) : tcol (T.take (k + 1)) q j = if q = T[k].q then tcol (T.take k) q j ++ [T[k].row[j]?.getD 0] else tcol (T.take k) q j := by
  unfold tcol
  rw [List.take_succ_eq_append_getElem hk, List.filter_append, List.map_append]
  by_cases h : q = T[k].q
  · rw [if_pos h]; simp [h]
  · rw [if_neg h]
    have h' : ¬ T[k].q = q := fun e => h e.symm
    simp [h']
theorem tcol_len (T : List Tl) (q : Int × Int) (j : Nat) : (tcol T q j).length ≤ T.length := by
  unfold tcol
  rw [List.length_map]
  exact List.length_filter_le ..
/-- The sums of two censuses' tallies are the sums of both lists of events. -/
theorem join_sums {a b : List Ev} {Ta Tb : List Tl} (ha : TalF (gE a) Ta) (hb : TalF (gE b) Tb) (q : Int × Int) {j : Nat} (hj : j < 5) : sumI (tcol (Ta ++ Tb) q j) = gE (a ++ b) q j := by
  rw [tcol_sum, talG_append, ha.sums q hj, hb.sums q hj, gE_append]
theorem kinds_at (l : List Ev) {j : Nat} (hj : j < 20) : (kindsL l)[j]? = some (manyE l j) := by
  unfold kindsL
  rw [List.getElem?_map, List.getElem?_range hj]
  rfl
theorem kinds_append (a b : List Ev) : kindsL (a ++ b) = List.zipWith (· + ·) (kindsL a) (kindsL b) := by
  apply List.ext_getElem?
  intro j
  by_cases hj : j < 20
  · rw [kinds_at _ hj, List.getElem?_zipWith, kinds_at a hj, kinds_at b hj]
    simp [many_append]
  · rw [List.getElem?_eq_none (by simp [kindsL]; omega), List.getElem?_eq_none (by simp [kindsL]; omega)]
end Go.Proofs.Ytgkidjjijgegmaa
