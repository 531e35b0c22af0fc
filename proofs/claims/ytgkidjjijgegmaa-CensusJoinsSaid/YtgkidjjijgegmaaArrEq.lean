/-
  '==' at arrays of five int64.
-/
import Derived.Test.YtgkidjjijgegmaaCW6
import Derived.Laws.StructEq
namespace Go.Proofs.Ytgkidjjijgegmaa
open Go.RowKit

theorem part64 (xs : Array Value) (i : Nat) (k : IntKind) (n : Int) (w : World) (h : xs[i]? = some (.int k n)) : (part 2 xs i).run Try.prog w = .ok (.int k n) w := by
  unfold part
  simp [Try.isAgg2, h]
theorem eqi64 (d : Nat) (a b : Int) (w : World) : (Op.equalIn (d + 1) 2 (.int .i64 a) (.int .i64 b)).run Try.prog w = .ok (a == b) w := run_equalIn_int w d _ .i64 .i64 a b Try.underlying2
theorem eqi64' (a b : Int) (w : World) : (Op.equalIn 9999 2 (.int .i64 a) (.int .i64 b)).run Try.prog w = .ok (a == b) w := eqi64 9998 a b w
set_option maxHeartbeats 1000000 in
theorem eq5_run (a0 a1 a2 a3 a4 b0 b1 b2 b3 b4 : Int) (w : World) : (Op.equalIn 10000 35 (.agg #[.int .i64 a0, .int .i64 a1, .int .i64 a2, .int .i64 a3, .int .i64 a4]) (.agg #[.int .i64 b0, .int .i64 b1, .int .i64 b2, .int .i64 b3, .int .i64 b4])).run Try.prog w = .ok (a0 == b0 && (a1 == b1 && (a2 == b2 && (a3 == b3 && a4 == b4)))) w := by
  have pa0 := fun w => part64 #[.int .i64 a0, .int .i64 a1, .int .i64 a2, .int .i64 a3, .int .i64 a4] 0 .i64 a0 w rfl
  have pa1 := fun w => part64 #[.int .i64 a0, .int .i64 a1, .int .i64 a2, .int .i64 a3, .int .i64 a4] 1 .i64 a1 w rfl
  have pa2 := fun w => part64 #[.int .i64 a0, .int .i64 a1, .int .i64 a2, .int .i64 a3, .int .i64 a4] 2 .i64 a2 w rfl
  have pa3 := fun w => part64 #[.int .i64 a0, .int .i64 a1, .int .i64 a2, .int .i64 a3, .int .i64 a4] 3 .i64 a3 w rfl
  have pa4 := fun w => part64 #[.int .i64 a0, .int .i64 a1, .int .i64 a2, .int .i64 a3, .int .i64 a4] 4 .i64 a4 w rfl
  have pb0 := fun w => part64 #[.int .i64 b0, .int .i64 b1, .int .i64 b2, .int .i64 b3, .int .i64 b4] 0 .i64 b0 w rfl
  have pb1 := fun w => part64 #[.int .i64 b0, .int .i64 b1, .int .i64 b2, .int .i64 b3, .int .i64 b4] 1 .i64 b1 w rfl
  have pb2 := fun w => part64 #[.int .i64 b0, .int .i64 b1, .int .i64 b2, .int .i64 b3, .int .i64 b4] 2 .i64 b2 w rfl
  have pb3 := fun w => part64 #[.int .i64 b0, .int .i64 b1, .int .i64 b2, .int .i64 b3, .int .i64 b4] 3 .i64 b3 w rfl
  have pb4 := fun w => part64 #[.int .i64 b0, .int .i64 b1, .int .i64 b2, .int .i64 b3, .int .i64 b4] 4 .i64 b4 w rfl
  have q0 := fun w => eqi64' a0 b0 w
  have q1 := fun w => eqi64' a1 b1 w
  have q2 := fun w => eqi64' a2 b2 w
  have q3 := fun w => eqi64' a3 b3 w
  have q4 := fun w => eqi64' a4 b4 w
  generalize (a0 == b0) = c0 at *
  generalize (a1 == b1) = c1 at *
  generalize (a2 == b2) = c2 at *
  generalize (a3 == b3) = c3 at *
  generalize (a4 == b4) = c4 at *
  unfold Op.equalIn
  cases c0
  case false => simp [run_underlying Try.underlying35, Std.Legacy.Range.forIn_eq_forIn_range', List.range', pa0, pb0, q0, Result.andThen]
  cases c1
  case false => simp [run_underlying Try.underlying35, Std.Legacy.Range.forIn_eq_forIn_range', List.range', pa0, pb0, pa1, pb1, q0, q1, Result.andThen]
  cases c2
  case false => simp [run_underlying Try.underlying35, Std.Legacy.Range.forIn_eq_forIn_range', List.range', pa0, pb0, pa1, pb1, pa2, pb2, q0, q1, q2, Result.andThen]
  cases c3
  case false => simp [run_underlying Try.underlying35, Std.Legacy.Range.forIn_eq_forIn_range', List.range', pa0, pb0, pa1, pb1, pa2, pb2, pa3, pb3, q0, q1, q2, q3, Result.andThen]
  cases c4
  case false => simp [run_underlying Try.underlying35, Std.Legacy.Range.forIn_eq_forIn_range', List.range', pa0, pb0, pa1, pb1, pa2, pb2, pa3, pb3, pa4, pb4, q0, q1, q2, q3, q4, Result.andThen]
  simp [run_underlying Try.underlying35, Std.Legacy.Range.forIn_eq_forIn_range', List.range', pa0, pb0, pa1, pb1, pa2, pb2, pa3, pb3, pa4, pb4, q0, q1, q2, q3, q4, Result.andThen]
end Go.Proofs.Ytgkidjjijgegmaa
