/-
  '^n' of an int64.
-/
import Derived.Test.YtgkidjjijgegmaaMoneyDef
import Derived.Laws.Entries
namespace Go.Proofs.Ytgkidjjijgegmaa
open Go

theorem not_wrap {x y : Int} (hy : -9223372036854775808 ≤ y ∧ y ≤ 9223372036854775807) (h : x = y ∨ x = y + 18446744073709551616) : IntKind.i64.wrap x = y := by
  simp only [IntKind.wrap, IntKind.bits, IntKind.signed]
  simp
  omega
theorem not_bits (n : Int) (h : I64 n) : bits .xor .i64 (-1) n = -n - 1 := by
  show IntKind.i64.wrap ((BitVec.ofInt 64 (-1) ^^^ BitVec.ofInt 64 n).toNat : Int) = _
  have e1 : BitVec.ofInt 64 (-1) = BitVec.allOnes 64 := by decide
  rw [e1, BitVec.allOnes_xor, BitVec.toNat_not, BitVec.toNat_ofInt]
  have e2 : ((2 ^ 64 : Nat) : Int) = 18446744073709551616 := by decide
  have e3 : (2 : Nat) ^ 64 = 18446744073709551616 := by decide
  rw [e2, e3]
  obtain ⟨r, hr⟩ : ∃ r : Nat, (r : Int) = n % 18446744073709551616 := ⟨(n % 18446744073709551616).toNat, by omega⟩
  have e4 : (n % 18446744073709551616).toNat = r := by omega
  rw [e4]
  obtain ⟨s, hs⟩ : ∃ s : Nat, s = 18446744073709551616 - 1 - r := ⟨_, rfl⟩
  rw [← hs]
  unfold I64 at h
  exact not_wrap (by omega) (by omega)
end Go.Proofs.Ytgkidjjijgegmaa
