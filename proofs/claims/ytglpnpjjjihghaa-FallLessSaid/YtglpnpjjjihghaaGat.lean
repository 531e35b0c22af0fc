/-
  Words for comp.gather: what it hands back.
-/
import Derived.Test.YtglpnpjjjihghaaMem
import Derived.Test.YtglpnpjjjihghaaMoneySumD
import Derived.Test.YtglpnpjjjihghaaObPlain
namespace Go.Proofs.Ytglpnpjjjihghaa
open Go.RowKit

/-- The first error of the sums. -/
def gatE (f : Int → List Int) : List Int → Int
  | [] => 0
  | k :: ks => if I64 (sumI (f k)) then gatE f ks else 2
def gatR (f : Int → List Int) (ks : List Int) : List Lg := ks.map fun k => ⟨k, 0, sumI (f k)⟩
def gatL (f : Int → List Int) (ks : List Int) : List Lg := if gatE f ks = 0 then gatR f ks else []
theorem gatE_take {f : Int → List Int} : ∀ {ks : List Int} {k : Nat} (hk : k < ks.length), (∀ j (hj : j < k), I64 (sumI (f ks[j]))) → ¬ I64 (sumI (f ks[k])) → gatE f ks = 2
  | x :: xs, 0, _, _, h => by
    unfold gatE
    rw [if_neg (by simpa using h)]
  | x :: xs, k + 1, hk, h, h' => by
    unfold gatE
    rw [if_pos (by have := h 0 (by omega); simpa using this)]
    exact gatE_take (by simpa using hk) (fun j hj => by have := h (j + 1) (by omega); simpa using this) (by simpa using h')
theorem gatE_all {f : Int → List Int} : ∀ {ks : List Int}, (∀ j (hj : j < ks.length), I64 (sumI (f ks[j]))) → gatE f ks = 0
  | [], _ => rfl
  | x :: xs, h => by
    unfold gatE
    rw [if_pos (by have := h 0 (by simp); simpa using this)]
    exact gatE_all fun j hj => by have := h (j + 1) (by simpa using hj); simpa using this
theorem gatR_snoc (f : Int → List Int) {ks : List Int} {k : Nat} (hk : k < ks.length) : gatR f (ks.take (k + 1)) = gatR f (ks.take k) ++ [⟨ks[k], 0, sumI (f ks[k])⟩] := by
  unfold gatR
  rw [List.take_succ_eq_append_getElem hk, List.map_append]
  rfl
/-- Legs and an error have come back. -/
def GotLE (l : List Lg) (e : Int) (w : World) (ed : Ending) (w' : World) : Prop := ∃ A c, ed = .returned (.tuple #[.slice A l.length c, .int .i64 e]) ∧ Seg w' w'.heap.size A (lgRows l) ∧ Below w.heap.size w w'
theorem lg_info3 : (Try.prog.info? 75).map (fun i => (i.zero, i.size, i.bytes)) = some (some (.agg #[.int .i64 0, .int .i64 0, .int .i64 0]), 3, 24) := by kernel_rfl
theorem leg_one3 (x : Lg) : ∀ u ∈ x.cells, u.oneCell' = true := by
  intro u hu
  simp [Lg.cells] at hu
  rcases hu with rfl | rfl | rfl <;> rfl
theorem lgRows_snoc3 (l : List Lg) (x : Lg) : lgRows (l ++ [x]) = lgRows l ++ x.cells := by simp [lgRows]
theorem own_below' {wr w1 : World} {base : Nat} {e : TypeId} {s n : Nat} {u : Value} {xs : List Value} (h : wr.ownsRow base e s u n xs) (hb : Below wr.heap.size wr w1) : w1.ownsRow base e s u n xs :=
  h.kept ⟨hb.os, hb.tape, hb.output, hb.size, fun k hk _ => hb.block k hk⟩ (by cases u.ownBlock <;> simp : u.ownBlock = none ∨ u.ownBlock ≠ none)
end Go.Proofs.Ytglpnpjjjihghaa
