/- Long division by two digits of 32 bits: plain. -/
import Derived.Test.YtblplkajgbbkdaaMem
namespace Go.Proofs.Ytblplkajgbbkdaa.DivLaw

/-- The trial quotient, and what is left of it: between two rounds. -/
structure Tri (u v1 q r : Nat) : Prop where
  eq : q * v1 + r = u

theorem mul_split (q v1 v0 : Nat) : q * (v1 * 4294967296 + v0) = q * v1 * 4294967296 + q * v0 := by
  rw [Nat.mul_add, Nat.mul_assoc]

/-- A trial quotient that fits is at most the quotient. -/
theorem le_of_fits {u u1 v1 v0 q r : Nat} (e : q * v1 + r = u) (h : q * v0 ≤ 4294967296 * r + u1) : q * (v1 * 4294967296 + v0) ≤ u * 4294967296 + u1 := by
  rw [mul_split, ← e, Nat.add_mul]
  omega
theorem gt_of_not {u u1 v1 v0 q r : Nat} (e : q * v1 + r = u) (h : 4294967296 * r + u1 < q * v0) : u * 4294967296 + u1 < q * (v1 * 4294967296 + v0) := by
  rw [mul_split, ← e, Nat.add_mul]
  omega
/-- The quotient has one digit. -/
theorem quo_lt {u u1 v : Nat} (hu : u < v) (h1 : u1 < 4294967296) : (u * 4294967296 + u1) / v < 4294967296 := by
  rw [Nat.div_lt_iff_lt_mul (by omega)]
  have : (u + 1) * 4294967296 ≤ v * 4294967296 := Nat.mul_le_mul_right _ hu
  rw [Nat.mul_comm 4294967296 v]
  omega
theorem first_le {u v1 v0 : Nat} (hu : u < v1 * 4294967296 + v0) (h0 : v0 < 4294967296) (h1 : 2147483648 ≤ v1) : u / v1 ≤ 4294967297 := by
  have : u / v1 < 4294967298 := by
    rw [Nat.div_lt_iff_lt_mul (by omega)]
    have e : 4294967298 * v1 = v1 * 4294967296 + 2 * v1 := by omega
    omega
  omega
theorem first_ge {u u1 v1 v0 : Nat} (h1 : 2147483648 ≤ v1) (hu : u1 < 4294967296) : (u * 4294967296 + u1) / (v1 * 4294967296 + v0) ≤ u / v1 := by
  have h : (u * 4294967296 + u1) / (v1 * 4294967296 + v0) ≤ (u * 4294967296 + u1) / (v1 * 4294967296) := Nat.div_le_div_left (by omega) (by omega)
  refine Nat.le_trans h ?_
  rw [Nat.mul_comm v1, ← Nat.div_div_eq_div_mul]
  have : (u * 4294967296 + u1) / 4294967296 = u := by omega
  rw [this]
  exact Nat.le_refl _

/-- One round of the search for a digit: what holds ahead of each test. -/
structure Inv (u u1 v1 v0 q r : Nat) : Prop where
  eq : q * v1 + r = u
  ge : (u * 4294967296 + u1) / (v1 * 4294967296 + v0) ≤ q
  lt : r < 4294967296
  le : q ≤ 4294967297

theorem Inv.first {u u1 v1 v0 : Nat} (hu : u < v1 * 4294967296 + v0) (h0 : v0 < 4294967296) (h1 : 2147483648 ≤ v1) (h2 : v1 < 4294967296) (hu1 : u1 < 4294967296) : Inv u u1 v1 v0 (u / v1) (u % v1) :=
  ⟨by rw [Nat.mul_comm]; exact Nat.div_add_mod u v1, first_ge h1 hu1, Nat.lt_trans (Nat.mod_lt _ (by omega)) h2, first_le hu h0 h1⟩

/-- The digit is found where the test fails. -/
theorem Inv.found {u u1 v1 v0 q r : Nat} (h : Inv u u1 v1 v0 q r) (h1 : 0 < v1) (ht : q * v0 ≤ 4294967296 * r + u1) : q = (u * 4294967296 + u1) / (v1 * 4294967296 + v0) := by
  have h3 := le_of_fits h.eq ht
  have h4 : q ≤ (u * 4294967296 + u1) / (v1 * 4294967296 + v0) := by
    rw [Nat.le_div_iff_mul_le (by omega)]
    exact h3
  exact Nat.le_antisymm h4 h.ge

theorem Inv.more {u u1 v1 v0 q r : Nat} (h : Inv u u1 v1 v0 q r) (hu : u < v1 * 4294967296 + v0) (_ : 2147483648 ≤ v1) (hu1 : u1 < 4294967296) (ht : 4294967296 ≤ q ∨ 4294967296 * r + u1 < q * v0) :
    1 ≤ q ∧ (q - 1) * v1 + (r + v1) = u ∧ (u * 4294967296 + u1) / (v1 * 4294967296 + v0) ≤ q - 1 := by
  have hlt : (u * 4294967296 + u1) / (v1 * 4294967296 + v0) < q := by
    rcases ht with ht | ht
    · exact Nat.lt_of_lt_of_le (quo_lt hu hu1) ht
    · rw [Nat.div_lt_iff_lt_mul (by omega)]
      exact gt_of_not h.eq ht
  have e := h.eq
  have hq : 1 ≤ q := Nat.lt_of_le_of_lt (Nat.zero_le _) hlt
  obtain ⟨p, rfl⟩ : ∃ p, q = p + 1 := ⟨q - 1, by omega⟩
  rw [Nat.add_mul] at e
  refine ⟨hq, ?_, by omega⟩
  simp only [Nat.add_sub_cancel]
  omega

theorem Inv.next {u u1 v1 v0 q r : Nat} (h : Inv u u1 v1 v0 q r) (hu : u < v1 * 4294967296 + v0) (h1 : 2147483648 ≤ v1) (hu1 : u1 < 4294967296) (ht : 4294967296 ≤ q ∨ 4294967296 * r + u1 < q * v0) (hr : r + v1 < 4294967296) :
    Inv u u1 v1 v0 (q - 1) (r + v1) := by
  obtain ⟨_, a, b⟩ := h.more hu h1 hu1 ht
  exact ⟨a, b, hr, Nat.le_trans (Nat.sub_le _ _) h.le⟩

/-- Where the loop is left by its break the digit is found, too. -/
theorem Inv.broke {u u1 v1 v0 q r : Nat} (h : Inv u u1 v1 v0 q r) (hu : u < v1 * 4294967296 + v0) (h0 : v0 < 4294967296) (h1 : 2147483648 ≤ v1) (hu1 : u1 < 4294967296) (ht : 4294967296 ≤ q ∨ 4294967296 * r + u1 < q * v0) (hr : 4294967296 ≤ r + v1) :
    q - 1 = (u * 4294967296 + u1) / (v1 * 4294967296 + v0) := by
  obtain ⟨_, a, b⟩ := h.more hu h1 hu1 ht
  have hle : (q - 1) * v0 ≤ 4294967296 * (r + v1) + u1 := by
    have h2 : (q - 1) * v0 ≤ 4294967296 * v0 := Nat.mul_le_mul_right _ (by have := h.le; omega)
    omega
  have h3 := le_of_fits a hle
  have h4 : q - 1 ≤ (u * 4294967296 + u1) / (v1 * 4294967296 + v0) := by
    rw [Nat.le_div_iff_mul_le (by omega)]
    exact h3
  exact Nat.le_antisymm h4 b

/-- Both digits together. -/
theorem both (n u0 : Nat) {v B : Nat} (hv : 0 < v) :
    n / v * B + (n % v * B + u0) / v = (n * B + u0) / v ∧ (n % v * B + u0) % v = (n * B + u0) % v := by
  have e : n * B + u0 = v * (n / v * B) + (n % v * B + u0) := by
    have h := Nat.div_add_mod n v
    have h2 : n * B = (v * (n / v) + n % v) * B := by rw [h]
    rw [h2, Nat.add_mul, Nat.mul_assoc]
    omega
  constructor
  · rw [e, Nat.mul_add_div hv]
  · rw [e, Nat.mul_add_mod]

/-- What is shifted is divided alike. -/
theorem shifted (n v k : Nat) (hk : 0 < k) : n * k / (v * k) = n / v ∧ n * k % (v * k) / k = n % v := by
  refine ⟨Nat.mul_div_mul_right n v hk, ?_⟩
  rw [Nat.mul_mod_mul_right, Nat.mul_div_cancel _ hk]
end Go.Proofs.Ytblplkajgbbkdaa.DivLaw
