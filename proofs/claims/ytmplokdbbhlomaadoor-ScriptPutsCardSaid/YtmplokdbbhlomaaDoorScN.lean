/-
  Numbers as bytes, in plain Lean: what is put is got, and what is got was put.
-/
import Derived.Lib.Varint
import Derived.Test.YtmplokdbbhlomaaDoorMoneyDef
namespace Go.Proofs.YtmplokdbbhlomaaDoor

def unzig (z : Nat) : Int := if z % 2 = 0 then ((z / 2 : Nat) : Int) else -((z / 2 : Nat) : Int) - 1
theorem unzig_zigzag (n : Int) : unzig (Lib.zigzag n) = n := by
  unfold unzig Lib.zigzag
  split <;> split <;> omega
theorem zigzag_unzig (z : Nat) : Lib.zigzag (unzig z) = z := by
  unfold unzig Lib.zigzag
  split <;> split <;> omega

theorem zig_lt {n : Int} (h : I64 n) : Lib.zigzag n < 18446744073709551616 := by
  unfold Lib.zigzag
  unfold I64 at h
  split <;> omega
theorem unzig_in {z : Nat} (h : z < 18446744073709551616) : I64 (unzig z) := by
  unfold unzig I64
  split <;> omega
/-- A number's bytes. -/
def putN (n : Int) : List UInt8 := Lib.uvarint (Lib.zigzag n)
theorem putN_len {n : Int} (h : I64 n) : (putN n).length ≤ 10 := Lib.uvarint_length64 (zig_lt h)
theorem putN_pos (n : Int) : 1 ≤ (putN n).length := Lib.uvarint_pos _
/-- i bytes have been read, z is what they spell: the number, the rest, the error. -/
def getFrom : List UInt8 → Nat → Nat → Int × List UInt8 × Int
  | [], i, _ => if 10 ≤ i then (0, [], 3) else (0, [], 4)
  | c :: s, i, z => if 10 ≤ i then (0, [], 3) else if i = 9 ∧ 1 < c.toNat then (0, [], 3) else
    if c.toNat < 128 then (if c.toNat = 0 ∧ 0 < i then (0, [], 3) else (unzig (z + c.toNat * 2 ^ (7 * i)), s, 0)) else getFrom s (i + 1) (z + c.toNat % 128 * 2 ^ (7 * i))
def getB (s : List UInt8) : Int × List UInt8 × Int := getFrom s 0 0
theorem pow_step (i : Nat) : 2 ^ (7 * (i + 1)) = 128 * 2 ^ (7 * i) := by
  rw [show 7 * (i + 1) = 7 + 7 * i by omega, Nat.pow_add]
theorem top_step {i : Nat} (h : i ≤ 8) : 2 ^ (64 - 7 * i) = 128 * 2 ^ (64 - 7 * (i + 1)) := by
  rw [show 64 - 7 * i = 7 + (64 - 7 * (i + 1)) by omega, Nat.pow_add]
theorem toUInt8_nat {n : Nat} (h : n < 256) : (n.toUInt8).toNat = n := by
  show (UInt8.ofNat n).toNat = n
  rw [UInt8.toNat_ofNat']
  omega
theorem getFrom_put (r : List UInt8) : ∀ (n y i z : Nat), y ≤ n → i ≤ 9 → y < 2 ^ (64 - 7 * i) → (0 < i → 0 < y) → getFrom (Lib.uvarint y ++ r) i z = (unzig (z + y * 2 ^ (7 * i)), r, 0) := by
  intro n
  induction n with
  | zero =>
    intro y i z hy hi hlt hp
    obtain rfl : y = 0 := by omega
    rw [Lib.uvarint_small (by omega)]
    have h0 : ¬ 0 < i := fun h => by have := hp h; omega
    obtain rfl : i = 0 := by omega
    simp [getFrom]
  | succ n ih =>
    intro y i z hy hi hlt hp
    by_cases h128 : y < 128
    · rw [Lib.uvarint_small h128]
      have hc : (y.toUInt8).toNat = y := toUInt8_nat (by omega)
      rw [List.cons_append, List.nil_append]
      unfold getFrom
      rw [hc, if_neg (by omega), if_neg, if_pos h128, if_neg]
      · rintro ⟨h1, h2⟩
        have := hp h2
        omega
      · rintro ⟨rfl, h2⟩
        have : (2 : Nat) ^ (64 - 7 * 9) = 2 := by decide
        omega
    · rw [Lib.uvarint_big (by omega)]
      have hc : ((y % 128 + 128).toUInt8).toNat = y % 128 + 128 := toUInt8_nat (by omega)
      rw [List.cons_append]
      have hi8 : i ≤ 8 := by
        apply Classical.byContradiction
        intro h
        obtain rfl : i = 9 := by omega
        have : (2 : Nat) ^ (64 - 7 * 9) = 2 := by decide
        omega
      unfold getFrom
      rw [hc, if_neg (by omega), if_neg (by omega), if_neg (by omega)]
      have ht := top_step hi8
      rw [ih (y / 128) (i + 1) _ (by omega) (by omega) (by rw [ht] at hlt; omega) (by omega), pow_step]
      congr 2
      have e : (y % 128 + 128) % 128 = y % 128 := by omega
      rw [e, Nat.add_assoc]
      congr 1
      have h2 : y = 128 * (y / 128) + y % 128 := (Nat.div_add_mod y 128).symm
      generalize 2 ^ (7 * i) = p
      generalize y / 128 = a at *
      generalize y % 128 = b at *
      subst h2
      rw [Nat.add_mul, Nat.mul_comm 128 a, Nat.mul_assoc, Nat.add_comm]
theorem get_put {n : Int} (h : I64 n) (r : List UInt8) : getB (putN n ++ r) = (n, r, 0) := by
  unfold getB putN
  rw [getFrom_put r _ _ 0 0 (Nat.le_refl _) (by omega) (by have := zig_lt h; simpa using this) (by omega)]
  simp [unzig_zigzag]
theorem getFrom_got (r : List UInt8) (n : Int) : ∀ (s : List UInt8) (i z : Nat), i ≤ 9 → getFrom s i z = (n, r, 0) → ∃ y, n = unzig (z + y * 2 ^ (7 * i)) ∧ s = Lib.uvarint y ++ r ∧ y < 2 ^ (64 - 7 * i) ∧ (0 < i → 0 < y) := by
  intro s
  induction s with
  | nil =>
    intro i z hi h
    unfold getFrom at h
    rw [if_neg (by omega)] at h
    injection h with _ h
    injection h with _ h
    cases h
  | cons c s ih =>
    intro i z hi h
    unfold getFrom at h
    rw [if_neg (by omega)] at h
    split at h
    · injection h with _ h
      injection h with _ h
      cases h
    rename_i h9
    split at h
    · rename_i h128
      split at h
      · injection h with _ h
        injection h with _ h
        cases h
      · rename_i h0
        injection h with h1 h2
        injection h2 with h2 _
        refine ⟨c.toNat, h1.symm, ?_, ?_, fun hi0 => ?_⟩
        · rw [Lib.uvarint_small h128, ← h2]
          congr 1
          simp
        · by_cases e : i = 9
          · subst e
            have : (2 : Nat) ^ (64 - 7 * 9) = 2 := by decide
            rw [this]
            have : ¬ 1 < c.toNat := fun hh => h9 ⟨rfl, hh⟩
            omega
          · have h7 : (2 : Nat) ^ 7 ≤ 2 ^ (64 - 7 * i) := Nat.pow_le_pow_right (by decide) (by omega)
            omega
        · apply Classical.byContradiction
          intro hc
          exact h0 ⟨by omega, hi0⟩
    · rename_i h128
      have hc := c.toNat_lt
      have hi8 : i ≤ 8 := by
        apply Classical.byContradiction
        intro hh
        obtain rfl : i = 9 := by omega
        exact h9 ⟨rfl, by omega⟩
      obtain ⟨y, h1, h2, h3, h4⟩ := ih (i + 1) _ (by omega) h
      have hy := h4 (by omega)
      refine ⟨c.toNat % 128 + 128 * y, ?_, ?_, ?_, fun _ => by omega⟩
      · rw [h1, pow_step]
        congr 1
        generalize 2 ^ (7 * i) = p
        rw [Nat.add_mul, Nat.add_assoc]
        congr 2
        rw [Nat.mul_comm 128 y, Nat.mul_assoc]
      · rw [Lib.uvarint_big (by omega), h2]
        have e1 : (c.toNat % 128 + 128 * y) % 128 + 128 = c.toNat := by omega
        have e2 : (c.toNat % 128 + 128 * y) / 128 = y := by omega
        rw [e1, e2]
        simp
      · rw [top_step hi8]
        omega
theorem get_got {s r : List UInt8} {n : Int} (h : getB s = (n, r, 0)) : s = putN n ++ r ∧ I64 n := by
  obtain ⟨y, h1, h2, h3, _⟩ := getFrom_got r n s 0 0 (by omega) h
  have e : n = unzig y := by simpa using h1
  have h4 : y < 18446744073709551616 := by simpa using h3
  refine ⟨?_, by rw [e]; exact unzig_in h4⟩
  unfold putN
  rw [e, zigzag_unzig]
  exact h2
end Go.Proofs.YtmplokdbbhlomaaDoor
