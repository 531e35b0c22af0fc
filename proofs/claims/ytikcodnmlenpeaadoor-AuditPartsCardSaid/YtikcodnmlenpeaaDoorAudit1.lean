/-
  What audit.has, member, amount and other come to, over this seat's translation: contracts for callers.
-/
import Derived.Test.YtikcodnmlenpeaaDoorProg
import Derived.Test.YtikcodnmlenpeaaDoorAudPlain
namespace Go.Proofs.YtikcodnmlenpeaaDoor
open Go.RowKit

theorem ret_bool {a b : Bool} (h : a = b) : Ending.returned (.bool a) = .returned (.bool b) := by rw [h]
theorem kinds (k : Int) : k ≤ 0 ∨ 20 ≤ k ∨ (k = 1 ∨ k = 2 ∨ k = 3 ∨ k = 4 ∨ k = 5 ∨ k = 6 ∨ k = 7 ∨ k = 8 ∨ k = 9 ∨ k = 10) ∨ (k = 11 ∨ k = 12 ∨ k = 13 ∨ k = 14 ∨ k = 15 ∨ k = 16 ∨ k = 17 ∨ k = 18 ∨ k = 19) := by omega

theorem ret_int_bool' {k : IntKind} {a c : Int} {b d : Bool} (h : a = c) (h' : b = d) :
    Ending.returned (.tuple #[.int k a, .bool b]) = .returned (.tuple #[.int k c, .bool d]) := by rw [h, h']
set_option maxHeartbeats 2000000 in
theorem has_any (k : Int) (w : World) :
    Calls Tryd.prog 18 #[.int .i64 k] w fun e w' => e = .returned (.tuple #[.int .i64 (hasB k), .bool (hasI k)]) ∧ w = w' := by
  rcases kinds k with h | h | h | h
  · have hz : hasB k = 0 ∧ hasI k = false := by
      constructor
      · unfold hasB hasM hasA hasN hasO
        repeat rw [decide_eq_false (by omega)]
        rfl
      · unfold hasI; rw [decide_eq_false (by omega)]
    have HZ := Lib.hid hz
    clear hz
    go_enter Tryd.func18, Tryd.ntmps18
    go_wp2
    go_ret2
    exact ⟨ret_int_bool' HZ.out.1.symm HZ.out.2.symm, rfl⟩
  · have hz : hasB k = 0 ∧ hasI k = false := by
      constructor
      · unfold hasB hasM hasA hasN hasO
        repeat rw [decide_eq_false (by omega)]
        rfl
      · unfold hasI; rw [decide_eq_false (by omega)]
    have HZ := Lib.hid hz
    clear hz
    go_enter Tryd.func18, Tryd.ntmps18
    go_wp2
    go_ret2
    exact ⟨ret_int_bool' HZ.out.1.symm HZ.out.2.symm, rfl⟩
  · rcases h with rfl | rfl | rfl | rfl | rfl | rfl | rfl | rfl | rfl | rfl
    all_goals
      go_enter Tryd.func18, Tryd.ntmps18
      go_wp2
      go_ret2
      exact ⟨rfl, rfl⟩
  · rcases h with rfl | rfl | rfl | rfl | rfl | rfl | rfl | rfl | rfl
    all_goals
      go_enter Tryd.func18, Tryd.ntmps18
      go_wp2
      go_ret2
      exact ⟨rfl, rfl⟩

set_option maxHeartbeats 400000 in
theorem member_any (ms : Int) (x : Ev) (w : World) :
    Calls Tryd.prog 20 #[.int .i64 ms, x.val] w fun e w' => e = .returned (.bool (memB ms x)) ∧ Below w.heap.size w w' := by
  obtain ⟨k, m, a, n, o⟩ := x
  unfold Ev.val
  go_enter Tryd.func20, Tryd.ntmps20
  go_wp2
  all_goals
    go_ret
    refine ⟨ret_bool ?_, (Below.refl _ _).alloc (Nat.le_refl _) _⟩
    rw [Bool.eq_iff_iff]
    simp_all [memB] <;> omega

set_option maxHeartbeats 400000 in
theorem amount_any (x : Ev) (w : World) :
    Calls Tryd.prog 23 #[x.val] w fun e w' => e = .returned (.bool (amtB x)) ∧ Below w.heap.size w w' := by
  obtain ⟨k, m, a, n, o⟩ := x
  unfold Ev.val
  go_enter Tryd.func23, Tryd.ntmps23
  go_wp2
  all_goals
    go_ret
    refine ⟨ret_bool ?_, (Below.refl _ _).alloc (Nat.le_refl _) _⟩
    rw [Bool.eq_iff_iff]
    simp_all [amtB] <;> omega

set_option maxHeartbeats 400000 in
theorem other_any (x : Ev) (w : World) :
    Calls Tryd.prog 25 #[x.val] w fun e w' => e = .returned (.bool (othB x)) ∧ Below w.heap.size w w' := by
  obtain ⟨k, m, a, n, o⟩ := x
  unfold Ev.val
  go_enter Tryd.func25, Tryd.ntmps25
  go_wp2
  all_goals
    go_ret
    refine ⟨ret_bool ?_, (Below.refl _ _).alloc (Nat.le_refl _) _⟩
    rw [Bool.eq_iff_iff]
    simp_all [othB] <;> omega
end Go.Proofs.YtikcodnmlenpeaaDoor
