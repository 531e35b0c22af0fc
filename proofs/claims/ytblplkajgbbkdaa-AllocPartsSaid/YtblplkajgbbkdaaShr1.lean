/-
  What wide.Mul, wide.Div, wide.MulDiv, share.Quota and cmp.Compare come to, over this seat's translation: contracts for callers.
-/
import Derived.Test.YtblplkajgbbkdaaDiv64b
import Derived.Test.YtblplkajgbbkdaaMem
import Derived.Below
namespace Go.Proofs.Ytblplkajgbbkdaa
open Go.RowKit Go.Lib Go.Proofs.Ytblplkajgbbkdaa.DivLaw

set_option maxHeartbeats 800000 in
theorem wmul_any (a b : Nat) (w : World) (ha : a < 18446744073709551616) (hb : b < 18446744073709551616) :
    Calls Try.prog 77 #[.int .u64 a, .int .u64 b] w fun e w' => e = .returned (.agg #[.int .u64 ((a * b / 18446744073709551616 : Nat) : Int), .int .u64 ((a * b % 18446744073709551616 : Nat) : Int)]) ∧ Below w.heap.size w w' := by
  have HC := fun W => Lib.hid (Try.bits_Mul64 a b ha hb W)
  clear ha hb
  generalize a * b / 18446744073709551616 = H at *
  generalize a * b % 18446744073709551616 = L at *
  go_enter Try.func77, Try.ntmps77
  go_wp2_with fail
  refine (HC _).out.mono ?_
  rintro e w' ⟨rfl, rfl⟩
  go_wp2_with fail
  exact bodyPost_ret (v := .agg #[.int .u64 (H : Int), .int .u64 (L : Int)]) (by simp [results, Try.results77, go_sem]) rfl ⟨rfl, (Below.refl _ _).alloc (Nat.le_refl _) _⟩

set_option maxHeartbeats 800000 in
theorem wdiv_any (hi lo c D M : Nat) (w : World) (h2 : hi < c) (h3 : c < 18446744073709551616) (hlo : lo < 18446744073709551616) (hD : (hi * 18446744073709551616 + lo) / c = D) (hM : (hi * 18446744073709551616 + lo) % c = M) :
    Calls Try.prog 76 #[.agg #[.int .u64 hi, .int .u64 lo], .int .u64 c] w fun e w' => e = .returned (.tuple #[.int .u64 (D : Int), .int .u64 (M : Int), .int .i64 0]) ∧ Below w.heap.size w w' := by
  have HC := fun W => Lib.hid (div64_any hi lo c W h2 h3 hlo)
  rw [hD, hM] at HC
  clear h3 hlo hD hM
  have z1 : ((c : Int) == 0) = false := by rw [beq_eq_false_iff_ne]; omega
  have z3 : ¬ (c : Int) ≤ (hi : Int) := by omega
  go_enter Try.func76, Try.ntmps76
  go_wp2_with fail
  refine (HC _).out.mono ?_
  rintro e w' ⟨rfl, n, rfl⟩
  go_wp2_with fail
  go_ret3
  exact ⟨rfl, below_drewN ((Below.refl _ _).alloc (Nat.le_refl _) _) n⟩

set_option maxHeartbeats 800000 in
theorem muldiv_any (a b c : Nat) (w : World) (ha : a < 18446744073709551616) (hb : b < 18446744073709551616) (h2 : a * b / 18446744073709551616 < c) (h3 : c < 18446744073709551616) :
    Calls Try.prog 56 #[.int .u64 a, .int .u64 b, .int .u64 c] w fun e w' => e = .returned (.tuple #[.int .u64 ((a * b / c : Nat) : Int), .int .u64 ((a * b % c : Nat) : Int), .int .i64 0]) ∧ Below w.heap.size w w' := by
  have HC := fun W => Lib.hid (wmul_any a b W ha hb)
  have e : a * b / 18446744073709551616 * 18446744073709551616 + a * b % 18446744073709551616 = a * b := by omega
  have HD := fun W => Lib.hid (wdiv_any (a * b / 18446744073709551616) (a * b % 18446744073709551616) c (a * b / c) (a * b % c) W h2 h3 (by omega) (by rw [e]) (by rw [e]))
  clear e ha hb h2 h3
  generalize a * b / 18446744073709551616 = H at *
  generalize a * b % 18446744073709551616 = L at *
  generalize a * b / c = D at *
  generalize a * b % c = M at *
  go_enter Try.func56, Try.ntmps56
  go_wp2_with fail
  refine (HC _).out.mono ?_
  rintro e w1 ⟨rfl, hb1⟩
  have HB := Lib.hid hb1
  clear hb1
  go_wp2_with fail
  refine (HD _).out.mono ?_
  rintro e w2 ⟨rfl, hb2⟩
  have HB2 := Lib.hid (HB.out.trans (hb2.mono HB.out.size))
  clear hb2
  go_wp2_with fail
  go_ret3
  exact ⟨rfl, HB2.out⟩

set_option maxHeartbeats 800000 in
theorem quota_any (T wt S : Nat) (w : World) (hT : T < 9223372036854775808) (hw : wt ≤ S) (h0 : 0 < S) (hS : S < 9223372036854775808) :
    Calls Try.prog 22 #[.int .i64 T, .int .i64 wt, .int .i64 S] w fun e w' => e = .returned (.tuple #[.int .i64 ((T * wt / S : Nat) : Int), .int .i64 ((T * wt % S : Nat) : Int), .int .i64 0]) ∧ Below w.heap.size w w' := by
  have hm : T * wt ≤ 9223372036854775807 * S := Nat.mul_le_mul (by omega) hw
  have hd1 : T * wt / 18446744073709551616 < S := (Nat.div_lt_iff_lt_mul (by omega)).2 (by omega)
  have hq : T * wt / S ≤ T := by
    have := Nat.div_le_div_right (c := S) (Nat.mul_le_mul_left T hw)
    rw [Nat.mul_div_cancel _ h0] at this
    exact this
  have hr : T * wt % S < S := Nat.mod_lt _ h0
  have HC := fun W => Lib.hid (muldiv_any T wt S W (by omega) (by omega) hd1 (by omega))
  clear hm hd1
  generalize T * wt / S = D at *
  generalize T * wt % S = M at *
  have z1 : ((S : Int) == 0) = false := by rw [beq_eq_false_iff_ne]; omega
  have z2 : ¬ (S : Int) < (wt : Int) := by omega
  have z3 : ¬ (T : Int) < 0 := by omega
  have z4 : ¬ (wt : Int) < 0 := by omega
  go_enter Try.func22, Try.ntmps22
  go_wp2_with fail
  refine (HC _).out.mono ?_
  rintro e w1 ⟨rfl, hb1⟩
  have HB := Lib.hid hb1
  clear hb1
  go_wp2_with fail
  go_ret3
  exact ⟨rfl, HB.out⟩
/-- May a part be asked? -/
def askB (T wt S : Int) : Bool := !(decide (T < 0) || decide (wt < 0) || decide (S < wt) || (S == 0))
set_option maxHeartbeats 800000 in
theorem quota_bad (T wt S : Int) (w : World) (h : askB T wt S = false) :
    Calls Try.prog 22 #[.int .i64 T, .int .i64 wt, .int .i64 S] w fun e w' => e = .returned (.tuple #[.int .i64 0, .int .i64 0, .int .i64 1]) ∧ w = w' := by
  unfold askB at h
  by_cases h1 : T < 0
  · clear h
    go_enter Try.func22, Try.ntmps22
    go_wp2_with fail
    go_ret3
    exact ⟨rfl, rfl⟩
  · by_cases h2 : wt < 0
    · clear h
      go_enter Try.func22, Try.ntmps22
      go_wp2_with fail
      go_ret3
      exact ⟨rfl, rfl⟩
    · by_cases h3 : S < wt
      · clear h
        go_enter Try.func22, Try.ntmps22
        go_wp2_with fail
        go_ret3
        exact ⟨rfl, rfl⟩
      · have h4 : (S == 0) = true := by simpa [h1, h2, h3] using h
        clear h
        go_enter Try.func22, Try.ntmps22
        go_wp2_with fail
        go_ret3
        exact ⟨rfl, rfl⟩

theorem nan_any (x : Int) (w : World) : Calls Try.prog 90 #[.int .i64 x] w fun e w' => e = .returned (.bool false) ∧ w = w' := by
  go_enter Try.func90, Try.ntmps90
  go_wp2
  go_ret
  simp
/-- What Compare says. -/
def cmpI (x y : Int) : Int := if x < y then -1 else if y < x then 1 else 0
theorem cmpI_neg (x y : Int) : cmpI x y < 0 ↔ x < y := by unfold cmpI; split <;> (try split) <;> omega
set_option maxHeartbeats 800000 in
theorem compare_any (x y : Int) (w : World) : Calls Try.prog 75 #[.int .i64 x, .int .i64 y] w fun e w' => e = .returned (.int .i64 (cmpI x y)) ∧ w = w' := by
  go_enter Try.func75, Try.ntmps75
  go_wp2_with (go_at_call 90; refine (nan_any _ _).mono ?_; rintro e w' ⟨rfl, rfl⟩)
  · have h : x < y := by assumption
    go_ret
    exact ⟨by rw [cmpI, if_pos h]; rfl, rfl⟩
  · have h : ¬ x < y := by omega
    have h2 : y < x := by assumption
    go_ret
    exact ⟨by rw [cmpI, if_neg h, if_pos h2]; rfl, rfl⟩
  · have h : ¬ x < y := by omega
    have h2 : ¬ y < x := by omega
    go_ret
    exact ⟨by rw [cmpI, if_neg h, if_neg h2]; rfl, rfl⟩
end Go.Proofs.Ytblplkajgbbkdaa
