/-
  What math/bits.Div64 comes to, over this seat's translation: a contract for callers.
-/
import Derived.Test.YtblplkajgbbkdaaDiv64
import Derived.Test.YtblplkajgbbkdaaShelf
import Derived.Test.YtblplkajgbbkdaaDivLaw2
import Derived.Shelf.Bits.Mul64
import Derived.Deep.LoopGhost
import Derived.Deep.QuietTactic
import Derived.BigQuiet
namespace Go.Proofs.Ytblplkajgbbkdaa
open Go.RowKit Go.Lib Go.Proofs.Ytblplkajgbbkdaa.DivLaw

theorem lz_any (y : Nat) (w : World) (h : y < 18446744073709551616) : Calls Try.prog 98 #[.int .u64 y] w fun e w' => e = .returned (.int .i64 (64 - Lib.bitLen y : Nat)) ∧ w' = w := by
  refine (Try.bits_LeadingZeros64 (y : Int) w (by omega) (by omega)).mono ?_
  rintro e w' ⟨rfl, rfl⟩
  have hl : Lib.bitLen y ≤ 64 := Lib.bitLen_le y 64 (Nat.le_refl _) (by simpa using h)
  refine ⟨?_, rfl⟩
  rw [Int.toNat_natCast, Int.ofNat_sub hl]
  rfl
set_option maxHeartbeats 1600000 in
set_option maxRecDepth 1000000 in
theorem div64_any (hi lo y : Nat) (w : World) (h2 : hi < y) (h3 : y < 18446744073709551616) (hlo : lo < 18446744073709551616) :
    Calls Try.prog 91 #[.int .u64 hi, .int .u64 lo, .int .u64 y] w fun e w' => e = .returned (.tuple #[.int .u64 (((hi * 18446744073709551616 + lo) / y : Nat) : Int), .int .u64 (((hi * 18446744073709551616 + lo) % y : Nat) : Int)]) ∧ ∃ n, w' = w.drewN n := by
  by_cases h1 : hi = 0
  · subst h1
    have e1 : (0 * 18446744073709551616 + lo) / y = lo / y := by rw [Nat.zero_mul, Nat.zero_add]
    have e2 : (0 * 18446744073709551616 + lo) % y = lo % y := by rw [Nat.zero_mul, Nat.zero_add]
    rw [e1, e2]
    obtain ⟨D, hD⟩ : ∃ D, D = lo / y := ⟨_, rfl⟩
    obtain ⟨M, hM⟩ : ∃ M, M = lo % y := ⟨_, rfl⟩
    rw [← hD, ← hM]
    have hDl : D ≤ lo := by rw [hD]; exact Nat.div_le_self _ _
    have f0 : ¬ y = 0 := by omega
    have f1 : IntKind.u64.wrap ((lo : Int) / (y : Int)) = (D : Int) := by rw [← Int.natCast_ediv, ← hD]; exact Mul64.wrapN _ (by omega)
    have f2 : (lo : Int) % (y : Int) = (M : Int) := by rw [← Int.natCast_emod, ← hM]
    have f3 : ((y : Int) == 0) = false := by rw [beq_eq_false_iff_ne]; omega
    have f4 : ¬ (y : Int) ≤ 0 := by omega
    have f5 : IntKind.u64.wrap ((lo : Int).tdiv (y : Int)) = (D : Int) := by rw [Int.tdiv_eq_ediv_of_nonneg (by omega)]; exact f1
    have f6 : (lo : Int).tmod (y : Int) = (M : Int) := by rw [Int.tmod_eq_emod_of_nonneg (by omega)]; exact f2
    clear e1 e2 hD hM
    go_enter Try.func91, Try.ntmps91
    go_wp2_with fail
    go_quiet (fail)
    go_wp2_with fail
    go_ret2
    exact ⟨rfl, _, rfl⟩
  · have S := shf y (by omega) h3
    have hn := nums (lo := lo) S h2 hlo
    have hM := hn.eU_
    have hhi := hn.vhi
    have hb : lo / 2 ^ (64 - (64 - Lib.bitLen y)) < 2 ^ (64 - Lib.bitLen y) := (Nat.div_lt_iff_lt_mul (Nat.pow_pos (by omega))).2 (by rw [S.pq]; exact hlo)
    have hor := or_add hi (lo / 2 ^ (64 - (64 - Lib.bitLen y))) (64 - Lib.bitLen y) hb (by omega)
    refine (div_big hi lo y _ _ _ _ _ _ _ _ _ _ _ _ w rfl rfl (by omega) h2 S hn (lz_any y w h3) ?_ ?_ ?_ ?_ ?_ ?_ ?_).mono ?_
    · rw [Mul64.mulN]; exact Mul64.wrapN _ S.hi
    · exact Mul64.divN _
    · exact Mul64.maskN _ S.hi
    · rw [Mul64.mulN, Mul64.wrapN _ (Nat.lt_of_le_of_lt (Nat.le_add_right _ _) (Nat.lt_trans hM hhi))]
      have e : (lo : Int) / 2 ^ (64 - (64 - Lib.bitLen y)) = ((lo / 2 ^ (64 - (64 - Lib.bitLen y)) : Nat) : Int) := by rw [Int.natCast_ediv, Int.natCast_pow]; rfl
      rw [e]
      exact hor
    · rw [Mul64.mulN]; exact Mul64.wrapM _
    · exact Mul64.divN _
    · exact Mul64.maskN _ (Nat.mod_lt _ (by omega))
    · rintro e w' ⟨rfl, rfl⟩
      exact ⟨rfl, 0, rfl⟩
end Go.Proofs.Ytblplkajgbbkdaa
