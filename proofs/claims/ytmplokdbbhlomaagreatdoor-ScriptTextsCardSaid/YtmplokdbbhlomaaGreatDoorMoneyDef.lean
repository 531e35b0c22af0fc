/-
  Amounts: an exact integer's value and error.
-/
import Derived.Test.YtmplokdbbhlomaaGreatDoorProg
import Derived.WalkKit
import Derived.WalkSpells
import Derived.WalkLawsBesides
import Derived.Lib.Hide
namespace Go.Proofs.YtmplokdbbhlomaaGreatDoor
open Go.RowKit

/-- An int64. -/
def I64 (x : Int) : Prop := -9223372036854775808 ≤ x ∧ x ≤ 9223372036854775807
instance (x : Int) : Decidable (I64 x) := inferInstanceAs (Decidable (_ ∧ _))
def amtV (x : Int) : Int := if I64 x then x else 0
def amtE (x : Int) : Int := if I64 x then 0 else 2
theorem amt_in {x : Int} (h : I64 x) : amtV x = x ∧ amtE x = 0 := by simp [amtV, amtE, h]
theorem amt_out {x : Int} (h : ¬ I64 x) : amtV x = 0 ∧ amtE x = 2 := by simp [amtV, amtE, h]
theorem amtV_I64 (x : Int) : I64 (amtV x) := by
  unfold amtV; split
  · assumption
  · unfold I64; omega

theorem ret2_int {k : IntKind} {a b c d : Int} (h : a = c) (h' : b = d) :
    Ending.returned (.tuple #[.int k a, .int k b]) = .returned (.tuple #[.int k c, .int k d]) := by rw [h, h']

end Go.Proofs.YtmplokdbbhlomaaGreatDoor
