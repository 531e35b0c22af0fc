/-
  What complineref11.Has, value, with come to, over this seat's translation: contracts for callers.
-/
import Derived.Test.YtmplokdbbhlomaaGreatDoorSrA
namespace Go.Proofs.YtmplokdbbhlomaaGreatDoor
open Go.RowKit

set_option maxRecDepth 100000 in
set_option maxHeartbeats 6400000 in
theorem rhas_any (k : Int) (w : World) : Calls Tryz.prog 31 #[.int .i64 k] w fun e w' => e = .returned (.string (bs (lettersOf k))) ∧ Below w.heap.size w w' := by
  cases hk : isK k with
  | true =>
    rcases isK_cases hk with rfl | rfl | rfl | rfl | rfl | rfl | rfl | rfl | rfl | rfl
    all_goals
      clear hk
      go_enter Tryz.func31, Tryz.ntmps31
      go_wp2_with fail
      go_ret
      exact ⟨by first | rfl | (congr 2; decide), by first | exact (Below.refl _ _).alloc (Nat.le_refl _) _ | exact Below.refl _ _⟩
  | false =>
    have HL : Hid (lettersOf k = [63]) := Lib.hid (by unfold lettersOf; rw [hk]; rfl)
    by_cases h1 : k < 1
    · have hd1 : decide (k < 1) = true := decide_eq_true h1
      clear hk
      go_enter Tryz.func31, Tryz.ntmps31
      go_wp2_with fail
      go_ret
      rw [HL.out]
      exact ⟨by first | rfl | (congr 2; decide), by first | exact (Below.refl _ _).alloc (Nat.le_refl _) _ | exact Below.refl _ _⟩
    · have hd1 : decide (k < 1) = false := decide_eq_false h1
      have h2 : 10 < k := by
        simp [isK] at hk
        omega
      have hd2 : decide (10 < k) = true := decide_eq_true h2
      clear hk
      go_enter Tryz.func31, Tryz.ntmps31
      go_wp2_with fail
      go_ret
      rw [HL.out]
      exact ⟨by first | rfl | (congr 2; decide), by first | exact (Below.refl _ _).alloc (Nat.le_refl _) _ | exact Below.refl _ _⟩
set_option maxRecDepth 100000 in
set_option maxHeartbeats 6400000 in
theorem with_any (c : Cm) (j : Nat) (hj : j < 6) (n : Int) (w : World) : Calls Tryz.prog 50 #[cmV c, .int .u8 (lett j : Nat), .int .i64 n] w fun e w' => e = .returned (cmV (c.set j n)) ∧ Below w.heap.size w w' := by
  obtain ⟨k, i, m, o, s, q, p⟩ := c
  unfold cmV
  rcases six_cases hj with rfl | rfl | rfl | rfl | rfl | rfl
  all_goals
    simp only [lett, Cm.set]
    go_enter Tryz.func50, Tryz.ntmps50
    go_wp2_with fail
    exact bodyPost_ret (by simp [results, Tryz.results50, go_sem]) rfl ⟨rfl, ((Below.refl _ _).alloc (Nat.le_refl _) _).alloc (by simp) _⟩
end Go.Proofs.YtmplokdbbhlomaaGreatDoor
