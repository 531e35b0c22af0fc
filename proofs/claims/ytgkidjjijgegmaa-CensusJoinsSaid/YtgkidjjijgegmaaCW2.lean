/-
  What census.none and tally come to, over this seat's translation: contracts for callers.
-/
import Derived.Test.YtgkidjjijgegmaaCW1
namespace Go.Proofs.Ytgkidjjijgegmaa
open Go.RowKit

set_option maxHeartbeats 800000 in
theorem none_any (t : Tl) (w : World) :
    Calls Try.prog 31 #[t.val] w fun e w' => e = .returned (.bool (tlNone t)) ∧ Below w.heap.size w w' := by
  obtain ⟨⟨q1, q2⟩, a, b, c, d, e⟩ := t
  unfold Tl.val tlNone
  simp only
  obtain ⟨rb, HRB⟩ : ∃ r, Hid (r = (a == 0 && b == 0 && c == 0 && d == 0 && e == 0)) := ⟨_, Lib.hid rfl⟩
  rw [← HRB.out]
  go_enter Try.func31, Try.ntmps31
  go_wp2_with fail
  all_goals
    go_ret
    refine ⟨?_, (Below.refl _ _).alloc (Nat.le_refl _) _⟩
    have h := HRB.out
    subst h
    simp [*]
end Go.Proofs.Ytgkidjjijgegmaa
