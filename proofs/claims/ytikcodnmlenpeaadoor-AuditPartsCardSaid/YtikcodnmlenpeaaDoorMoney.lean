/-
  What the functions of package money come to, over this seat's translation (Add, Sub, Neg): contracts for callers.
-/
import Derived.Test.YtikcodnmlenpeaaDoorProg
import Derived.WalkKit
import Derived.WalkSpells
import Derived.WalkLawsBesides
import Derived.Lib.Hide
namespace Go.Proofs.YtikcodnmlenpeaaDoor
open Go.RowKit

/-- An int64. -/
def I64 (x : Int) : Prop := -9223372036854775808 ≤ x ∧ x ≤ 9223372036854775807
instance (x : Int) : Decidable (I64 x) := inferInstanceAs (Decidable (_ ∧ _))
def amtV (x : Int) : Int := if I64 x then x else 0
def amtE (x : Int) : Int := if I64 x then 0 else 2
theorem amt_in {x : Int} (h : I64 x) : amtV x = x ∧ amtE x = 0 := by simp [amtV, amtE, h]
theorem amt_out {x : Int} (h : ¬ I64 x) : amtV x = 0 ∧ amtE x = 2 := by simp [amtV, amtE, h]
theorem amtV_I64 (x : Int) : I64 (amtV x) := by
  unfold amtV; split
  · assumption
  · unfold I64; omega

theorem ret2_int {k : IntKind} {a b c d : Int} (h : a = c) (h' : b = d) :
    Ending.returned (.tuple #[.int k a, .int k b]) = .returned (.tuple #[.int k c, .int k d]) := by rw [h, h']

set_option maxHeartbeats 400000 in
theorem add_any (a b : Int) (w : World) (ha : I64 a) (hb : I64 b) :
    Calls Tryd.prog 35 #[.int .i64 a, .int .i64 b] w fun e w' =>
      e = .returned (.tuple #[.int .i64 (amtV (a + b)), .int .i64 (amtE (a + b))]) ∧ w = w' := by
  have HA := Lib.hid ha
  have HB := Lib.hid hb
  clear ha hb
  go_enter Tryd.func35, Tryd.ntmps35
  go_wp2
  all_goals
    go_ret2
    have ha := HA.out
    have hb := HB.out
    refine ⟨?_, rfl⟩
    unfold I64 at ha hb
    by_cases h : I64 (a + b)
    · obtain ⟨h1, h2⟩ := amt_in h
      rw [h1, h2]
      unfold I64 at h
      have hw : wrap64 (a + b) = a + b := by unfold wrap64; omega
      simp_all <;> omega
    · obtain ⟨h1, h2⟩ := amt_out h
      rw [h1, h2]
      unfold I64 at h
      unfold wrap64 at *
      simp_all <;> omega
end Go.Proofs.YtikcodnmlenpeaaDoor
