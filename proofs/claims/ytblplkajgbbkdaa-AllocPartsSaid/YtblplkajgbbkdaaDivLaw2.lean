/- The numbers of bits.Div64: plain. -/
import Derived.Test.YtblplkajgbbkdaaDivLaw
import Derived.Laws.Bits64b
import Derived.Lib.BitFns
namespace Go.Proofs.Ytblplkajgbbkdaa.DivLaw
open Go.RowKit Go.Lib

theorem bitLen_pos (x : Nat) (h0 : x ≠ 0) (h : x < 2 ^ 64) : 1 ≤ Lib.bitLen x := by rw [bitLen_half x h0 h]; omega
/-- What Lib.bitLen says. -/
theorem bitLen_bd : ∀ (k x : Nat), k ≤ 64 → x < 2 ^ k → x ≠ 0 → 2 ^ (Lib.bitLen x - 1) ≤ x ∧ x < 2 ^ Lib.bitLen x
  | 0, x, _, h, h0 => by simp at h; omega
  | k + 1, x, hk, h, h0 => by
    have h64 : x < 2 ^ 64 := Nat.lt_of_lt_of_le h (Nat.pow_le_pow_right (by omega) hk)
    rw [bitLen_half x h0 h64]
    by_cases c : x / 2 = 0
    · rw [c]
      have e : Lib.bitLen 0 = 0 := by decide
      rw [e]
      have : x = 1 := by omega
      subst this
      decide
    · have hh : x / 2 < 2 ^ k := by rw [Nat.pow_succ] at h; omega
      obtain ⟨a, b⟩ := bitLen_bd k (x / 2) (by omega) hh c
      have p := bitLen_pos (x / 2) c (by omega)
      obtain ⟨m, hm⟩ : ∃ m, Lib.bitLen (x / 2) = m + 1 := ⟨Lib.bitLen (x / 2) - 1, by omega⟩
      rw [hm] at a b ⊢
      simp only [Nat.add_sub_cancel] at a
      have e1 : 1 + (m + 1) - 1 = m + 1 := by omega
      rw [e1, Nat.pow_succ, show 1 + (m + 1) = m + 1 + 1 by omega, Nat.pow_succ 2 (m + 1)]
      omega
/-- The shift: it brings a number to the top of a word. -/
structure Shf (y s P Q : Nat) : Prop where
  lt : s < 64
  pos : 0 < P
  pq : P * Q = 18446744073709551616
  lo : 9223372036854775808 ≤ y * P
  hi : y * P < 18446744073709551616
  eP : P = 2 ^ s
  eQ : Q = 2 ^ (64 - s)
theorem shf (y : Nat) (h0 : y ≠ 0) (h : y < 18446744073709551616) : Shf y (64 - Lib.bitLen y) (2 ^ (64 - Lib.bitLen y)) (2 ^ (64 - (64 - Lib.bitLen y))) := by
  obtain ⟨a, b⟩ := bitLen_bd 64 y (Nat.le_refl _) (by simpa using h) h0
  have p := bitLen_pos y h0 (by simpa using h)
  have l : Lib.bitLen y ≤ 64 := bitLen_le y 64 (Nat.le_refl _) (by simpa using h)
  generalize Lib.bitLen y = t at *
  have e64 : 2 ^ (64 - t) * 2 ^ (64 - (64 - t)) = 18446744073709551616 := by rw [← Nat.pow_add, show 64 - t + (64 - (64 - t)) = 64 by omega]
  have pp : 0 < 2 ^ (64 - t) := Nat.pow_pos (by omega)
  refine ⟨by omega, pp, e64, ?_, ?_, rfl, rfl⟩
  · have h1 : 2 ^ (t - 1) * 2 ^ (64 - t) = 9223372036854775808 := by rw [← Nat.pow_add, show t - 1 + (64 - t) = 63 by omega]
    rw [← h1]
    exact Nat.mul_le_mul_right _ a
  · have h1 : 2 ^ t * 2 ^ (64 - t) = 18446744073709551616 := by rw [← Nat.pow_add, show t + (64 - t) = 64 by omega]
    rw [← h1]
    exact Nat.mul_lt_mul_of_pos_right b pp
theorem or_add (a b s : Nat) (hb : b < 2 ^ s) (h : a * 2 ^ s + b < 18446744073709551616) : bits .or .u64 ((a * 2 ^ s : Nat) : Int) (b : Int) = ((a * 2 ^ s + b : Nat) : Int) := by
  have h1 := bits_or_u64_nat (a * 2 ^ s) b (by omega) (by omega)
  rw [h1]
  congr 1
  have h2 := Nat.shiftLeft_add_eq_or_of_lt hb a
  rw [Nat.shiftLeft_eq] at h2
  exact h2.symm
/-- All numbers ahead of the first loop. -/
structure Nums (hi lo y P Q v v1 v0 U N u1 u0 : Nat) : Prop where
  ev_ : v = y * P
  vlo : 9223372036854775808 ≤ v
  vhi : v < 18446744073709551616
  vv : v1 * 4294967296 + v0 = v
  v1lo : 2147483648 ≤ v1
  v1hi : v1 < 4294967296
  v0hi : v0 < 4294967296
  eU_ : U < v
  eu1_ : u1 < 4294967296
  eu0_ : u0 < 4294967296
  all : (U * 4294967296 + u1) * 4294967296 + u0 = (hi * 18446744073709551616 + lo) * P
theorem nums {hi lo y s P Q : Nat} (S : Shf y s P Q) (hy : hi < y) (hl : lo < 18446744073709551616) :
    Nums hi lo y P Q (y * P) (y * P / 4294967296) (y * P % 4294967296) (hi * P + lo / Q) (lo * P % 18446744073709551616) (lo * P % 18446744073709551616 / 4294967296) (lo * P % 18446744073709551616 % 4294967296) := by
  have h1 := S.lo
  have h2 := S.hi
  have hQ : 0 < Q := by
    rcases Nat.eq_zero_or_pos Q with h | h
    · have := S.pq; rw [h] at this; simp at this
    · exact h
  have hd : lo / Q < P := (Nat.div_lt_iff_lt_mul hQ).2 (by rw [S.pq]; exact hl)
  have hm : (hi + 1) * P ≤ y * P := Nat.mul_le_mul_right _ hy
  rw [Nat.add_mul] at hm
  have hlo : lo * P = lo / Q * 18446744073709551616 + lo * P % 18446744073709551616 := by
    have e : lo * P / 18446744073709551616 = lo / Q := by
      rw [← S.pq, Nat.mul_comm lo P]
      exact Nat.mul_div_mul_left lo Q S.pos
    rw [← e]
    have := Nat.div_add_mod (lo * P) 18446744073709551616
    omega
  refine ⟨rfl, h1, h2, by omega, by omega, by omega, by omega, by omega, by omega, by omega, ?_⟩
  rw [Nat.add_mul (hi * 18446744073709551616), Nat.mul_right_comm]
  generalize lo * P % 18446744073709551616 = c at hlo ⊢
  rw [hlo]
  generalize hi * P = a
  generalize lo / Q = b
  omega
/-- The end. -/
theorem Nums.ends {hi lo y P Q v v1 v0 U N u1 u0 : Nat} (h : Nums hi lo y P Q v v1 v0 U N u1 u0) (hP : 0 < P) :
    (U * 4294967296 + u1) / v * 4294967296 + ((U * 4294967296 + u1) % v * 4294967296 + u0) / v = (hi * 18446744073709551616 + lo) / y ∧
    ((U * 4294967296 + u1) % v * 4294967296 + u0) % v / P = (hi * 18446744073709551616 + lo) % y := by
  have hv := h.vlo
  obtain ⟨a, b⟩ := both (U * 4294967296 + u1) u0 (v := v) (B := 4294967296) (by omega)
  rw [a, b, h.all, h.ev_]
  exact shifted _ y P hP
/-- What is left of a product that wraps. -/
theorem left_wrap (U u1 q v : Nat) (hq : q = (U * 4294967296 + u1) / v) (hv : 0 < v) (hv' : v < 18446744073709551616) :
    IntKind.u64.wrap (IntKind.u64.wrap (IntKind.u64.wrap ((U : Int) * 4294967296) + (u1 : Int)) - IntKind.u64.wrap ((q : Int) * (v : Int))) = (((U * 4294967296 + u1) % v : Nat) : Int) := by
  have e := Nat.div_add_mod (U * 4294967296 + u1) v
  rw [← hq] at e
  have hlt := Nat.mod_lt (U * 4294967296 + u1) hv
  generalize (U * 4294967296 + u1) % v = r at *
  have e2 : (q : Int) * (v : Int) = ((v * q : Nat) : Int) := by rw [Int.natCast_mul, Int.mul_comm]
  rw [e2]
  generalize v * q = m at *
  simp only [IntKind.wrap_u64]
  omega
end Go.Proofs.Ytblplkajgbbkdaa.DivLaw
