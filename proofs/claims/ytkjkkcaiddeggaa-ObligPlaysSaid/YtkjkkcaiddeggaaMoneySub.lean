/-
  What money.Sub and money.Neg come to, over this seat's translation: contracts for callers.
-/
import Derived.Test.YtkjkkcaiddeggaaMoneyDef
namespace Go.Proofs.Ytkjkkcaiddeggaa
open Go.RowKit

set_option maxHeartbeats 400000 in
theorem sub_any (a b : Int) (w : World) (ha : I64 a) (hb : I64 b) :
    Calls Try.prog 50 #[.int .i64 a, .int .i64 b] w fun e w' =>
      e = .returned (.tuple #[.int .i64 (amtV (a - b)), .int .i64 (amtE (a - b))]) ∧ w = w' := by
  have HA := Lib.hid ha
  have HB := Lib.hid hb
  clear ha hb
  go_enter Try.func50, Try.ntmps50
  go_wp2
  all_goals
    go_ret2
    have ha := HA.out
    have hb := HB.out
    refine ⟨?_, rfl⟩
    unfold I64 at ha hb
    by_cases h : I64 (a - b)
    · obtain ⟨h1, h2⟩ := amt_in h
      rw [h1, h2]
      unfold I64 at h
      have hw : wrap64 (a - b) = a - b := by unfold wrap64; omega
      simp_all <;> omega
    · obtain ⟨h1, h2⟩ := amt_out h
      rw [h1, h2]
      unfold I64 at h
      unfold wrap64 at *
      simp_all <;> omega

theorem I64_zero : I64 0 := by unfold I64; omega

set_option maxHeartbeats 400000 in
theorem neg_any (a : Int) (w : World) (ha : I64 a) :
    Calls Try.prog 44 #[.int .i64 a] w fun e w' =>
      e = .returned (.tuple #[.int .i64 (amtV (-a)), .int .i64 (amtE (-a))]) ∧ w = w' := by
  have HA := Lib.hid ha
  clear ha
  go_enter Try.func44, Try.ntmps44
  go_wp2_with (go_at_call 50; refine (sub_any 0 a _ I64_zero HA.out).mono ?_; rintro e w' ⟨rfl, rfl⟩)
  go_ret2
  exact ⟨rfl, rfl⟩

end Go.Proofs.Ytkjkkcaiddeggaa
