/-
  What package money's Size, signed and Mul come to, over this seat's translation: contracts for callers.
-/
import Derived.Test.YtedmbmfppjokpaaShelf
import Derived.Test.YtedmbmfppjokpaaMoneyDef
import Derived.Test.YtedmbmfppjokpaaBound1
namespace Go.Proofs.Ytedmbmfppjokpaa
open Go.RowKit

set_option maxHeartbeats 400000 in
theorem size_any (a : Int) (w : World) (ha : I64 a) : Calls Try.prog 23 #[.int .i64 a] w fun e w' => e = .returned (.int .u64 ((a.natAbs : Nat) : Int)) ∧ w = w' := by
  have HA := Lib.hid ha
  unfold I64 at ha
  rcases Int.lt_or_le a 0 with h | h
  · have HE : Hid (IntKind.u64.wrap (-IntKind.u64.wrap a) = ((a.natAbs : Nat) : Int)) := by show _ = _; rw [IntKind.wrap_u64, IntKind.wrap_u64]; omega
    go_enter Try.func23, Try.ntmps23
    go_wp2
    go_ret
    refine ⟨ret_int ?_, rfl⟩
    first | exact HE.out | (have hx := HE.out; simp only [IntKind.wrap_u64] at *; omega)
  · have HE : Hid (IntKind.u64.wrap a = ((a.natAbs : Nat) : Int)) := by show _ = _; rw [IntKind.wrap_u64]; omega
    go_enter Try.func23, Try.ntmps23
    go_wp2
    go_ret
    refine ⟨ret_int ?_, rfl⟩
    first | exact HE.out | (have hx := HE.out; simp only [IntKind.wrap_u64] at *; omega)
def sgB (n : Nat) (neg : Bool) : Bool := if neg = true then decide (n ≤ 9223372036854775808) else decide (n < 9223372036854775808)
def sgV (n : Nat) (neg : Bool) : Int := if neg = true then IntKind.i64.wrap (IntKind.u64.wrap (-(n : Int))) else IntKind.i64.wrap (n : Int)
set_option maxHeartbeats 400000 in
theorem signed_any (n : Nat) (neg : Bool) (w : World) (hn : n < 18446744073709551616) : Calls Try.prog 24 #[.int .u64 n, .bool neg] w fun e w' => e = .returned (.tuple #[.int .i64 (sgV n neg), .bool (sgB n neg)]) ∧ w = w' := by
  cases neg
  all_goals
    go_enter Try.func24, Try.ntmps24
    go_wp2
    go_ret2
    refine ⟨?_, rfl⟩
    unfold sgV sgB
    simp
    refine ⟨?_, by omega⟩
    simp only [IntKind.wrap_i64, IntKind.wrap_u64, wrap64]
/-- What Mul says of the halves is what the exact product says. -/
theorem mul_law (a b : Int) (P : Nat) (hP : P = a.natAbs * b.natAbs) (neg : Bool) (hneg : neg = (decide (a < 0) != decide (b < 0))) :
    (((P / 18446744073709551616 : Nat) : Int) = 0 ∧ sgB (P % 18446744073709551616) neg = true → amtV (a * b) = sgV (P % 18446744073709551616) neg ∧ amtE (a * b) = 0) ∧ (¬ ((P / 18446744073709551616 : Nat) : Int) = 0 ∨ sgB (P % 18446744073709551616) neg = false → amtV (a * b) = 0 ∧ amtE (a * b) = 2) := by
  have e : (neg = true → a * b = -(P : Int)) ∧ (neg = false → a * b = (P : Int)) := by
    subst hP hneg
    rw [Int.natCast_mul]
    rcases Int.lt_or_le a 0 with h | h <;> rcases Int.lt_or_le b 0 with h' | h'
    · rw [Int.ofNat_natAbs_of_nonpos (by omega), Int.ofNat_natAbs_of_nonpos (by omega)]; simp [h, h']; try rw [Int.neg_mul_neg]
    · rw [Int.ofNat_natAbs_of_nonpos (by omega), Int.natAbs_of_nonneg h']; simp [h, show ¬ b < 0 by omega]; rw [Int.neg_mul, Int.neg_neg]
    · rw [Int.natAbs_of_nonneg h, Int.ofNat_natAbs_of_nonpos (by omega)]; simp [h', show ¬ a < 0 by omega]; rw [Int.mul_neg, Int.neg_neg]
    · rw [Int.natAbs_of_nonneg h, Int.natAbs_of_nonneg h']; simp [show ¬ b < 0 by omega, show ¬ a < 0 by omega]
  clear hP hneg
  unfold sgV sgB
  cases neg
  · rw [e.2 rfl]
    simp only [IntKind.wrap_i64, IntKind.wrap_u64, Bool.false_eq_true, if_false, decide_eq_true_eq, decide_eq_false_iff_not]
    by_cases hI : I64 (P : Int)
    · obtain ⟨h1, h2⟩ := amt_in hI; rw [h1, h2]; unfold I64 at hI; omega
    · obtain ⟨h1, h2⟩ := amt_out hI; rw [h1, h2]; unfold I64 at hI; omega
  · rw [e.1 rfl]
    simp only [IntKind.wrap_i64, IntKind.wrap_u64, if_true, decide_eq_true_eq, decide_eq_false_iff_not]
    by_cases hI : I64 (-(P : Int))
    · obtain ⟨h1, h2⟩ := amt_in hI; rw [h1, h2]; unfold I64 at hI; omega
    · obtain ⟨h1, h2⟩ := amt_out hI; rw [h1, h2]; unfold I64 at hI; omega
set_option maxRecDepth 100000 in
set_option maxHeartbeats 800000 in
theorem mul_any (a b : Int) (w : World) (ha : I64 a) (hb : I64 b) : Calls Try.prog 16 #[.int .i64 a, .int .i64 b] w fun e w' => e = .returned (.tuple #[.int .i64 (amtV (a * b)), .int .i64 (amtE (a * b))]) ∧ w = w' := by
  have HA := Lib.hid ha
  have HB := Lib.hid hb
  have hna : a.natAbs < 18446744073709551616 := by unfold I64 at ha; omega
  have hnb : b.natAbs < 18446744073709551616 := by unfold I64 at hb; omega
  have HM := Lib.hid (Try.bits_Mul64 a.natAbs b.natAbs hna hnb w)
  have HL := Lib.hid (mul_law a b (a.natAbs * b.natAbs) rfl (decide (a < 0) != decide (b < 0)) rfl)
  have HN : Hid ((a < 0 → b < 0 → (decide (a < 0) != decide (b < 0)) = false) ∧ (a < 0 → 0 ≤ b → (decide (a < 0) != decide (b < 0)) = true) ∧ (0 ≤ a → b < 0 → (decide (a < 0) != decide (b < 0)) = true) ∧ (0 ≤ a → 0 ≤ b → (decide (a < 0) != decide (b < 0)) = false)) :=
    ⟨fun h h' => by simp [h, h'], fun h h' => by simp [h, show ¬ b < 0 by omega], fun h h' => by simp [h', show ¬ a < 0 by omega], fun h h' => by simp [show ¬ b < 0 by omega, show ¬ a < 0 by omega]⟩
  generalize (decide (a < 0) != decide (b < 0)) = neg at *
  generalize a.natAbs * b.natAbs = P at *
  have hP : P % 18446744073709551616 < 18446744073709551616 := Nat.mod_lt _ (by omega)
  have HS := Lib.hid (signed_any (P % 18446744073709551616) neg w hP)
  have HZA := Lib.hid (size_any a w HA.out)
  have HZB := Lib.hid (size_any b w HB.out)
  generalize amtV (a * b) = v at *
  generalize amtE (a * b) = ve at *
  generalize sgV (P % 18446744073709551616) neg = sv at *
  generalize sgB (P % 18446744073709551616) neg = sb at *
  generalize ((P / 18446744073709551616 : Nat) : Int) = hi at *
  generalize ((P % 18446744073709551616 : Nat) : Int) = lo at *
  generalize ((a.natAbs : Nat) : Int) = za at *
  generalize ((b.natAbs : Nat) : Int) = zb at *
  clear ha hb hP hna hnb HA HB
  go_enter Try.func16, Try.ntmps16
  go_wp2_with fail
  refine HZA.out.mono ?_
  rintro e w2 ⟨rfl, rfl⟩
  go_wp2_with fail
  refine HZB.out.mono ?_
  rintro e w2 ⟨rfl, rfl⟩
  go_wp2_with fail
  refine HM.out.mono ?_
  rintro e w2 ⟨rfl, h2⟩
  obtain rfl : w = w2 := h2.symm
  clear h2
  rcases Int.lt_or_le a 0 with h | h <;> rcases Int.lt_or_le b 0 with h' | h'
  · obtain rfl := HN.out.1 h h'
    have g : decide (a < 0) = true := by simp [h]
    have g' : decide (b < 0) = true := by simp [h']
    clear HN
    go_wp2_with fail
    with_reducible refine HS.out.mono ?_
    rintro e w2 ⟨rfl, rfl⟩
    by_cases hh : hi = 0
    · subst hh
      cases sb
      · obtain ⟨rfl, rfl⟩ := HL.out.2 (Or.inr rfl)
        clear HL HS
        go_wp2_with fail
        go_ret2
        exact ⟨rfl, rfl⟩
      · obtain ⟨rfl, rfl⟩ := HL.out.1 ⟨rfl, rfl⟩
        clear HL HS
        go_wp2_with fail
        go_ret2
        exact ⟨rfl, rfl⟩
    · obtain ⟨rfl, rfl⟩ := HL.out.2 (Or.inl hh)
      clear HL HS
      go_wp2_with fail
      go_ret2
      exact ⟨rfl, rfl⟩
  · obtain rfl := HN.out.2.1 h h'
    have g : decide (a < 0) = true := by simp [h]
    have g' : decide (b < 0) = false := by simp; omega
    clear HN
    go_wp2_with fail
    with_reducible refine HS.out.mono ?_
    rintro e w2 ⟨rfl, rfl⟩
    by_cases hh : hi = 0
    · subst hh
      cases sb
      · obtain ⟨rfl, rfl⟩ := HL.out.2 (Or.inr rfl)
        clear HL HS
        go_wp2_with fail
        go_ret2
        exact ⟨rfl, rfl⟩
      · obtain ⟨rfl, rfl⟩ := HL.out.1 ⟨rfl, rfl⟩
        clear HL HS
        go_wp2_with fail
        go_ret2
        exact ⟨rfl, rfl⟩
    · obtain ⟨rfl, rfl⟩ := HL.out.2 (Or.inl hh)
      clear HL HS
      go_wp2_with fail
      go_ret2
      exact ⟨rfl, rfl⟩
  · obtain rfl := HN.out.2.2.1 h h'
    have g : decide (a < 0) = false := by simp; omega
    have g' : decide (b < 0) = true := by simp [h']
    clear HN
    go_wp2_with fail
    with_reducible refine HS.out.mono ?_
    rintro e w2 ⟨rfl, rfl⟩
    by_cases hh : hi = 0
    · subst hh
      cases sb
      · obtain ⟨rfl, rfl⟩ := HL.out.2 (Or.inr rfl)
        clear HL HS
        go_wp2_with fail
        go_ret2
        exact ⟨rfl, rfl⟩
      · obtain ⟨rfl, rfl⟩ := HL.out.1 ⟨rfl, rfl⟩
        clear HL HS
        go_wp2_with fail
        go_ret2
        exact ⟨rfl, rfl⟩
    · obtain ⟨rfl, rfl⟩ := HL.out.2 (Or.inl hh)
      clear HL HS
      go_wp2_with fail
      go_ret2
      exact ⟨rfl, rfl⟩
  · obtain rfl := HN.out.2.2.2 h h'
    have g : decide (a < 0) = false := by simp; omega
    have g' : decide (b < 0) = false := by simp; omega
    clear HN
    go_wp2_with fail
    with_reducible refine HS.out.mono ?_
    rintro e w2 ⟨rfl, rfl⟩
    by_cases hh : hi = 0
    · subst hh
      cases sb
      · obtain ⟨rfl, rfl⟩ := HL.out.2 (Or.inr rfl)
        clear HL HS
        go_wp2_with fail
        go_ret2
        exact ⟨rfl, rfl⟩
      · obtain ⟨rfl, rfl⟩ := HL.out.1 ⟨rfl, rfl⟩
        clear HL HS
        go_wp2_with fail
        go_ret2
        exact ⟨rfl, rfl⟩
    · obtain ⟨rfl, rfl⟩ := HL.out.2 (Or.inl hh)
      clear HL HS
      go_wp2_with fail
      go_ret2
      exact ⟨rfl, rfl⟩
end Go.Proofs.Ytedmbmfppjokpaa
