/-
  What money.Neg comes to, over this seat's translation.
-/
import Derived.Test.YtgkidjjijgegmaaMoneySumD
namespace Go.Proofs.Ytgkidjjijgegmaa
open Go.RowKit

set_option maxHeartbeats 400000 in
theorem neg_any (a : Int) (w : World) (ha : I64 a) :
    Calls Try.prog 29 #[.int .i64 a] w fun e w' =>
      e = .returned (.tuple #[.int .i64 (amtV (-a)), .int .i64 (amtE (-a))]) ∧ w = w' := by
  have HA := Lib.hid ha
  clear ha
  go_enter Try.func29, Try.ntmps29
  go_wp2_with (go_at_call 39; refine (sub_any 0 a _ I64_zero HA.out).mono ?_; rintro e w' ⟨rfl, rfl⟩)
  go_ret2
  exact ⟨rfl, rfl⟩
end Go.Proofs.Ytgkidjjijgegmaa
