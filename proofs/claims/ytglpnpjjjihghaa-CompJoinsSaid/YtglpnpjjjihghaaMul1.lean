/-
  What Size (the program's and the document's), signed and money.Mul come to, over this seat's translation: contracts for callers.
-/
import Derived.Test.YtglpnpjjjihghaaMoneyDef
import Derived.Test.YtglpnpjjjihghaaMem
import Derived.Test.YtglpnpjjjihghaaShelf
namespace Go.Proofs.Ytglpnpjjjihghaa
open Go.RowKit

theorem ret_num {k : IntKind} {a b : Int} (h : a = b) : Ending.returned (.int k a) = .returned (.int k b) := by rw [h]
/-- How far an amount is from 0. -/
def szN (a : Int) : Nat := a.natAbs
set_option maxHeartbeats 400000 in
theorem rsize_any (a : Int) (w : World) (ha : I64 a) : Calls Try.prog 70 #[.int .i64 a] w fun e w' => e = .returned (.int .u64 (szN a : Int)) ∧ w = w' := by
  have ha1 := ha.1
  have ha2 := ha.2
  have hn : szN a = a.natAbs := rfl
  have HN := Lib.hid hn
  clear ha hn
  by_cases h : 0 ≤ a
  · go_enter Try.func70, Try.ntmps70
    go_wp2_with fail
    go_ret
    refine ⟨ret_num ?_, rfl⟩
    have hn := HN.out
    first | omega | (simp only [IntKind.wrap_u64]; omega)
  · go_enter Try.func70, Try.ntmps70
    go_wp2_with fail
    go_ret
    refine ⟨ret_num ?_, rfl⟩
    have hn := HN.out
    first | omega | (simp only [IntKind.wrap_u64, IntKind.wrap_i64]; omega)
set_option maxHeartbeats 400000 in
theorem size_any (a : Int) (w : World) (ha : I64 a) : Calls Try.prog 87 #[.int .i64 a] w fun e w' => e = .returned (.int .u64 (szN a : Int)) ∧ w = w' := by
  have ha1 := ha.1
  have ha2 := ha.2
  have hn : szN a = a.natAbs := rfl
  have HN := Lib.hid hn
  clear ha hn
  by_cases h : a < 0
  · go_enter Try.func87, Try.ntmps87
    go_wp2_with fail
    go_ret
    refine ⟨ret_num ?_, rfl⟩
    have hn := HN.out
    first | omega | (simp only [IntKind.wrap_u64]; omega)
  · go_enter Try.func87, Try.ntmps87
    go_wp2_with fail
    go_ret
    refine ⟨ret_num ?_, rfl⟩
    have hn := HN.out
    first | omega | (simp only [IntKind.wrap_u64]; omega)
theorem ret2_ib {k : IntKind} {a c : Int} {b d : Bool} (h : a = c) (h' : b = d) : Ending.returned (.tuple #[.int k a, .bool b]) = .returned (.tuple #[.int k c, .bool d]) := by rw [h, h']
def sgnV (n : Nat) (b : Bool) : Int := if b then (if n ≤ 9223372036854775808 then -(n : Int) else 18446744073709551616 - n) else (if n < 9223372036854775808 then n else n - 18446744073709551616)
def sgnB (n : Nat) (b : Bool) : Bool := if b then decide (n ≤ 9223372036854775808) else decide (n < 9223372036854775808)
set_option maxHeartbeats 400000 in
theorem signed_any (n : Nat) (b : Bool) (w : World) (hn : n < 18446744073709551616) : Calls Try.prog 88 #[.int .u64 (n : Int), .bool b] w fun e w' => e = .returned (.tuple #[.int .i64 (sgnV n b), .bool (sgnB n b)]) ∧ w = w' := by
  cases b
  · go_enter Try.func88, Try.ntmps88
    go_wp2_with fail
    go_ret2
    refine ⟨ret2_ib ?_ ?_, rfl⟩
    · unfold sgnV wrap64
      simp only [Bool.false_eq_true, if_false]
      split <;> omega
    · unfold sgnB
      simp only [Bool.false_eq_true, if_false]
      exact decide_eq_decide.2 (by omega)
  · go_enter Try.func88, Try.ntmps88
    go_wp2_with fail
    go_ret2
    refine ⟨ret2_ib ?_ ?_, rfl⟩
    · unfold sgnV wrap64
      simp only [IntKind.wrap_u64, if_true]
      split <;> omega
    · unfold sgnB
      simp only [if_true]
      exact decide_eq_decide.2 (by omega)
theorem szN_lt {a : Int} (ha : I64 a) : szN a ≤ 9223372036854775808 := by
  have := ha.1
  have := ha.2
  unfold szN
  omega
theorem szN_mul (a b : Int) : szN a * szN b = (a * b).natAbs := (Int.natAbs_mul a b).symm
theorem mul_neg {a b : Int} (h : (decide (a < 0) != decide (b < 0)) = true) : a * b ≤ 0 := by
  by_cases h1 : a < 0
  · by_cases h2 : b < 0
    · simp [h1, h2] at h
    · exact Int.mul_nonpos_of_nonpos_of_nonneg (show a ≤ 0 by omega) (show 0 ≤ b by omega)
  · by_cases h2 : b < 0
    · exact Int.mul_nonpos_of_nonneg_of_nonpos (show 0 ≤ a by omega) (show b ≤ 0 by omega)
    · simp [h1, h2] at h
theorem mul_pos' {a b : Int} (h : (decide (a < 0) != decide (b < 0)) = false) : 0 ≤ a * b := by
  by_cases h1 : a < 0
  · by_cases h2 : b < 0
    · have := Int.mul_pos_of_neg_of_neg h1 h2
      omega
    · simp [h1, h2] at h
  · by_cases h2 : b < 0
    · simp [h1, h2] at h
    · exact Int.mul_nonneg (show 0 ≤ a by omega) (show 0 ≤ b by omega)
/-- What the words of a product come to. -/
theorem mul_words {z : Int} {p hi lo : Nat} {s : Bool} (hp : p = z.natAbs) (hn : s = true → z ≤ 0) (hs : s = false → 0 ≤ z) (hlo : lo = p % 18446744073709551616) (hhi : hi = p / 18446744073709551616) :
    (hi ≠ 0 → ¬ I64 z) ∧ (hi = 0 → sgnB lo s = false → ¬ I64 z) ∧ (hi = 0 → sgnB lo s = true → I64 z ∧ sgnV lo s = z) := by
  unfold I64 sgnB sgnV
  cases s
  · have := hs rfl
    refine ⟨fun h => by omega, fun h h' => ?_, fun h h' => ?_⟩
    · simp at h'
      omega
    · simp at h'
      simp [h']
      omega
  · have := hn rfl
    refine ⟨fun h => by omega, fun h h' => ?_, fun h h' => ?_⟩
    · simp at h'
      omega
    · simp at h'
      simp [h']
      omega
set_option maxRecDepth 100000 in
set_option maxHeartbeats 800000 in
theorem mul_any (a b : Int) (w : World) (ha : I64 a) (hb : I64 b) : Calls Try.prog 66 #[.int .i64 a, .int .i64 b] w fun e w' => e = .returned (.tuple #[.int .i64 (amtV (a * b)), .int .i64 (amtE (a * b))]) ∧ w = w' := by
  have HA := Lib.hid ha
  have HB := Lib.hid hb
  obtain ⟨z, hz⟩ : ∃ z, z = a * b := ⟨_, rfl⟩
  obtain ⟨lo, hlo⟩ : ∃ lo, lo = szN a * szN b % 18446744073709551616 := ⟨_, rfl⟩
  obtain ⟨hi, hhi⟩ : ∃ hi, hi = szN a * szN b / 18446744073709551616 := ⟨_, rfl⟩
  have HM : ∀ W, Hid (Calls Try.prog 86 #[.int .u64 (szN a : Int), .int .u64 (szN b : Int)] W fun e w' => e = .returned (.tuple #[.int .u64 (hi : Int), .int .u64 (lo : Int)]) ∧ w' = W) := fun W => Lib.hid (by
    have h1 := szN_lt ha
    have h2 := szN_lt hb
    rw [hlo, hhi]
    exact Try.bits_Mul64 (szN a) (szN b) (by omega) (by omega) W)
  have hlol : lo < 18446744073709551616 := by omega
  obtain ⟨sg, hsg⟩ : ∃ sg : Bool, sg = !(decide (a < 0) == decide (b < 0)) := ⟨_, rfl⟩
  have HW := Lib.hid (mul_words (z := z) (s := sg) (by rw [szN_mul, hz]) (fun h => by rw [hz]; exact mul_neg (hsg.symm.trans h)) (fun h => by rw [hz]; exact mul_pos' (hsg.symm.trans h)) hlo hhi)
  rw [← hz]
  have HS := Lib.hid hsg
  clear ha hb hlo hhi hz hsg
  by_cases hh : hi = 0
  · subst hh
    cases hB : sgnB lo sg
    · have hno := HW.out.2.1 rfl hB
      go_enter Try.func66, Try.ntmps66
      go_wp2_with (first | (go_at_call 87; refine (size_any _ _ (by first | exact HA.out | exact HB.out)).mono ?_; rintro e w' ⟨rfl, rfl⟩) | (go_at_call 86; refine (HM _).out.mono ?_; rintro e w' ⟨rfl, rfl⟩) | (go_at_call 88; rw [← HS.out]; refine (signed_any lo sg _ hlol).mono ?_; rintro e w' ⟨rfl, rfl⟩))
      go_ret2
      exact ⟨ret2_int (amt_out hno).1.symm (amt_out hno).2.symm, rfl⟩
    · have hyes := HW.out.2.2 rfl hB
      go_enter Try.func66, Try.ntmps66
      go_wp2_with (first | (go_at_call 87; refine (size_any _ _ (by first | exact HA.out | exact HB.out)).mono ?_; rintro e w' ⟨rfl, rfl⟩) | (go_at_call 86; refine (HM _).out.mono ?_; rintro e w' ⟨rfl, rfl⟩) | (go_at_call 88; rw [← HS.out]; refine (signed_any lo sg _ hlol).mono ?_; rintro e w' ⟨rfl, rfl⟩))
      go_ret2
      exact ⟨ret2_int (by rw [(amt_in hyes.1).1]) (amt_in hyes.1).2.symm, rfl⟩
  · have hno := HW.out.1 hh
    have hz' : ((hi : Int) = 0) = False := by simp; omega
    go_enter Try.func66, Try.ntmps66
    go_wp2_with (first | (go_at_call 87; refine (size_any _ _ (by first | exact HA.out | exact HB.out)).mono ?_; rintro e w' ⟨rfl, rfl⟩) | (go_at_call 86; refine (HM _).out.mono ?_; rintro e w' ⟨rfl, rfl⟩) | (go_at_call 88; rw [← HS.out]; refine (signed_any lo sg _ hlol).mono ?_; rintro e w' ⟨rfl, rfl⟩))
    go_ret2
    exact ⟨ret2_int (amt_out hno).1.symm (amt_out hno).2.symm, rfl⟩
end Go.Proofs.Ytglpnpjjjihghaa
