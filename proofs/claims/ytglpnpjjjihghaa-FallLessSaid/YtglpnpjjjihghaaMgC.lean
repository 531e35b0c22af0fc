/-
  Several texts in one: DivLaw, DivLaw2, Div64, Div64b.
-/
import Derived.Test.YtglpnpjjjihghaaMem
import Derived.Laws.Bits64b
import Derived.Lib.BitFns
import Derived.Test.YtglpnpjjjihghaaMoneyDef
import Derived.Test.YtglpnpjjjihghaaShelf
import Derived.Shelf.Bits.Mul64
import Derived.Deep.LoopGhost
import Derived.Deep.QuietTactic
import Derived.BigQuiet
/- Long division by two digits of 32 bits: plain. -/
namespace Go.Proofs.Ytglpnpjjjihghaa.DivLaw

/-- The trial quotient, and what is left of it: between two rounds. -/
structure Tri (u v1 q r : Nat) : Prop where
  eq : q * v1 + r = u

theorem mul_split (q v1 v0 : Nat) : q * (v1 * 4294967296 + v0) = q * v1 * 4294967296 + q * v0 := by
  rw [Nat.mul_add, Nat.mul_assoc]

/-- A trial quotient that fits is at most the quotient. -/
theorem le_of_fits {u u1 v1 v0 q r : Nat} (e : q * v1 + r = u) (h : q * v0 ≤ 4294967296 * r + u1) : q * (v1 * 4294967296 + v0) ≤ u * 4294967296 + u1 := by
  rw [mul_split, ← e, Nat.add_mul]
  omega
theorem gt_of_not {u u1 v1 v0 q r : Nat} (e : q * v1 + r = u) (h : 4294967296 * r + u1 < q * v0) : u * 4294967296 + u1 < q * (v1 * 4294967296 + v0) := by
  rw [mul_split, ← e, Nat.add_mul]
  omega
/-- The quotient has one digit. -/
theorem quo_lt {u u1 v : Nat} (hu : u < v) (h1 : u1 < 4294967296) : (u * 4294967296 + u1) / v < 4294967296 := by
  rw [Nat.div_lt_iff_lt_mul (by omega)]
  have : (u + 1) * 4294967296 ≤ v * 4294967296 := Nat.mul_le_mul_right _ hu
  rw [Nat.mul_comm 4294967296 v]
  omega
theorem first_le {u v1 v0 : Nat} (hu : u < v1 * 4294967296 + v0) (h0 : v0 < 4294967296) (h1 : 2147483648 ≤ v1) : u / v1 ≤ 4294967297 := by
  have : u / v1 < 4294967298 := by
    rw [Nat.div_lt_iff_lt_mul (by omega)]
    have e : 4294967298 * v1 = v1 * 4294967296 + 2 * v1 := by omega
    omega
  omega
theorem first_ge {u u1 v1 v0 : Nat} (h1 : 2147483648 ≤ v1) (hu : u1 < 4294967296) : (u * 4294967296 + u1) / (v1 * 4294967296 + v0) ≤ u / v1 := by
  have h : (u * 4294967296 + u1) / (v1 * 4294967296 + v0) ≤ (u * 4294967296 + u1) / (v1 * 4294967296) := Nat.div_le_div_left (by omega) (by omega)
  refine Nat.le_trans h ?_
  rw [Nat.mul_comm v1, ← Nat.div_div_eq_div_mul]
  have : (u * 4294967296 + u1) / 4294967296 = u := by omega
  rw [this]
  exact Nat.le_refl _

/-- One round of the search for a digit: what holds ahead of each test. -/
structure Inv (u u1 v1 v0 q r : Nat) : Prop where
  eq : q * v1 + r = u
  ge : (u * 4294967296 + u1) / (v1 * 4294967296 + v0) ≤ q
  lt : r < 4294967296
  le : q ≤ 4294967297

theorem Inv.first {u u1 v1 v0 : Nat} (hu : u < v1 * 4294967296 + v0) (h0 : v0 < 4294967296) (h1 : 2147483648 ≤ v1) (h2 : v1 < 4294967296) (hu1 : u1 < 4294967296) : Inv u u1 v1 v0 (u / v1) (u % v1) :=
  ⟨by rw [Nat.mul_comm]; exact Nat.div_add_mod u v1, first_ge h1 hu1, Nat.lt_trans (Nat.mod_lt _ (by omega)) h2, first_le hu h0 h1⟩

/-- The digit is found where the test fails. -/
theorem Inv.found {u u1 v1 v0 q r : Nat} (h : Inv u u1 v1 v0 q r) (h1 : 0 < v1) (ht : q * v0 ≤ 4294967296 * r + u1) : q = (u * 4294967296 + u1) / (v1 * 4294967296 + v0) := by
  have h3 := le_of_fits h.eq ht
  have h4 : q ≤ (u * 4294967296 + u1) / (v1 * 4294967296 + v0) := by
    rw [Nat.le_div_iff_mul_le (by omega)]
    exact h3
  exact Nat.le_antisymm h4 h.ge

theorem Inv.more {u u1 v1 v0 q r : Nat} (h : Inv u u1 v1 v0 q r) (hu : u < v1 * 4294967296 + v0) (_ : 2147483648 ≤ v1) (hu1 : u1 < 4294967296) (ht : 4294967296 ≤ q ∨ 4294967296 * r + u1 < q * v0) :
    1 ≤ q ∧ (q - 1) * v1 + (r + v1) = u ∧ (u * 4294967296 + u1) / (v1 * 4294967296 + v0) ≤ q - 1 := by
  have hlt : (u * 4294967296 + u1) / (v1 * 4294967296 + v0) < q := by
    rcases ht with ht | ht
    · exact Nat.lt_of_lt_of_le (quo_lt hu hu1) ht
    · rw [Nat.div_lt_iff_lt_mul (by omega)]
      exact gt_of_not h.eq ht
  have e := h.eq
  have hq : 1 ≤ q := Nat.lt_of_le_of_lt (Nat.zero_le _) hlt
  obtain ⟨p, rfl⟩ : ∃ p, q = p + 1 := ⟨q - 1, by omega⟩
  rw [Nat.add_mul] at e
  refine ⟨hq, ?_, by omega⟩
  simp only [Nat.add_sub_cancel]
  omega

theorem Inv.next {u u1 v1 v0 q r : Nat} (h : Inv u u1 v1 v0 q r) (hu : u < v1 * 4294967296 + v0) (h1 : 2147483648 ≤ v1) (hu1 : u1 < 4294967296) (ht : 4294967296 ≤ q ∨ 4294967296 * r + u1 < q * v0) (hr : r + v1 < 4294967296) :
    Inv u u1 v1 v0 (q - 1) (r + v1) := by
  obtain ⟨_, a, b⟩ := h.more hu h1 hu1 ht
  exact ⟨a, b, hr, Nat.le_trans (Nat.sub_le _ _) h.le⟩

/-- Where the loop is left by its break the digit is found, too. -/
theorem Inv.broke {u u1 v1 v0 q r : Nat} (h : Inv u u1 v1 v0 q r) (hu : u < v1 * 4294967296 + v0) (h0 : v0 < 4294967296) (h1 : 2147483648 ≤ v1) (hu1 : u1 < 4294967296) (ht : 4294967296 ≤ q ∨ 4294967296 * r + u1 < q * v0) (hr : 4294967296 ≤ r + v1) :
    q - 1 = (u * 4294967296 + u1) / (v1 * 4294967296 + v0) := by
  obtain ⟨_, a, b⟩ := h.more hu h1 hu1 ht
  have hle : (q - 1) * v0 ≤ 4294967296 * (r + v1) + u1 := by
    have h2 : (q - 1) * v0 ≤ 4294967296 * v0 := Nat.mul_le_mul_right _ (by have := h.le; omega)
    omega
  have h3 := le_of_fits a hle
  have h4 : q - 1 ≤ (u * 4294967296 + u1) / (v1 * 4294967296 + v0) := by
    rw [Nat.le_div_iff_mul_le (by omega)]
    exact h3
  exact Nat.le_antisymm h4 b

/-- Both digits together. -/
theorem both (n u0 : Nat) {v B : Nat} (hv : 0 < v) :
    n / v * B + (n % v * B + u0) / v = (n * B + u0) / v ∧ (n % v * B + u0) % v = (n * B + u0) % v := by
  have e : n * B + u0 = v * (n / v * B) + (n % v * B + u0) := by
    have h := Nat.div_add_mod n v
    have h2 : n * B = (v * (n / v) + n % v) * B := by rw [h]
    rw [h2, Nat.add_mul, Nat.mul_assoc]
    omega
  constructor
  · rw [e, Nat.mul_add_div hv]
  · rw [e, Nat.mul_add_mod]

/-- What is shifted is divided alike. -/
theorem shifted (n v k : Nat) (hk : 0 < k) : n * k / (v * k) = n / v ∧ n * k % (v * k) / k = n % v := by
  refine ⟨Nat.mul_div_mul_right n v hk, ?_⟩
  rw [Nat.mul_mod_mul_right, Nat.mul_div_cancel _ hk]
end Go.Proofs.Ytglpnpjjjihghaa.DivLaw

/- The numbers of bits.Div64: plain. -/
namespace Go.Proofs.Ytglpnpjjjihghaa.DivLaw
open Go.RowKit Go.Lib

theorem bitLen_pos (x : Nat) (h0 : x ≠ 0) (h : x < 2 ^ 64) : 1 ≤ Lib.bitLen x := by rw [bitLen_half x h0 h]; omega
/-- What Lib.bitLen says. -/
theorem bitLen_bd : ∀ (k x : Nat), k ≤ 64 → x < 2 ^ k → x ≠ 0 → 2 ^ (Lib.bitLen x - 1) ≤ x ∧ x < 2 ^ Lib.bitLen x
  | 0, x, _, h, h0 => by simp at h; omega
  | k + 1, x, hk, h, h0 => by
    have h64 : x < 2 ^ 64 := Nat.lt_of_lt_of_le h (Nat.pow_le_pow_right (by omega) hk)
    rw [bitLen_half x h0 h64]
    by_cases c : x / 2 = 0
    · rw [c]
      have e : Lib.bitLen 0 = 0 := by decide
      rw [e]
      have : x = 1 := by omega
      subst this
      decide
    · have hh : x / 2 < 2 ^ k := by rw [Nat.pow_succ] at h; omega
      obtain ⟨a, b⟩ := bitLen_bd k (x / 2) (by omega) hh c
      have p := bitLen_pos (x / 2) c (by omega)
      obtain ⟨m, hm⟩ : ∃ m, Lib.bitLen (x / 2) = m + 1 := ⟨Lib.bitLen (x / 2) - 1, by omega⟩
      rw [hm] at a b ⊢
      simp only [Nat.add_sub_cancel] at a
      have e1 : 1 + (m + 1) - 1 = m + 1 := by omega
      rw [e1, Nat.pow_succ, show 1 + (m + 1) = m + 1 + 1 by omega, Nat.pow_succ 2 (m + 1)]
      omega
/-- The shift: it brings a number to the top of a word. -/
structure Shf (y s P Q : Nat) : Prop where
  lt : s < 64
  pos : 0 < P
  pq : P * Q = 18446744073709551616
  lo : 9223372036854775808 ≤ y * P
  hi : y * P < 18446744073709551616
  eP : P = 2 ^ s
  eQ : Q = 2 ^ (64 - s)
theorem shf (y : Nat) (h0 : y ≠ 0) (h : y < 18446744073709551616) : Shf y (64 - Lib.bitLen y) (2 ^ (64 - Lib.bitLen y)) (2 ^ (64 - (64 - Lib.bitLen y))) := by
  obtain ⟨a, b⟩ := bitLen_bd 64 y (Nat.le_refl _) (by simpa using h) h0
  have p := bitLen_pos y h0 (by simpa using h)
  have l : Lib.bitLen y ≤ 64 := bitLen_le y 64 (Nat.le_refl _) (by simpa using h)
  generalize Lib.bitLen y = t at *
  have e64 : 2 ^ (64 - t) * 2 ^ (64 - (64 - t)) = 18446744073709551616 := by rw [← Nat.pow_add, show 64 - t + (64 - (64 - t)) = 64 by omega]
  have pp : 0 < 2 ^ (64 - t) := Nat.pow_pos (by omega)
  refine ⟨by omega, pp, e64, ?_, ?_, rfl, rfl⟩
  · have h1 : 2 ^ (t - 1) * 2 ^ (64 - t) = 9223372036854775808 := by rw [← Nat.pow_add, show t - 1 + (64 - t) = 63 by omega]
    rw [← h1]
    exact Nat.mul_le_mul_right _ a
  · have h1 : 2 ^ t * 2 ^ (64 - t) = 18446744073709551616 := by rw [← Nat.pow_add, show t + (64 - t) = 64 by omega]
    rw [← h1]
    exact Nat.mul_lt_mul_of_pos_right b pp
theorem or_add (a b s : Nat) (hb : b < 2 ^ s) (h : a * 2 ^ s + b < 18446744073709551616) : bits .or .u64 ((a * 2 ^ s : Nat) : Int) (b : Int) = ((a * 2 ^ s + b : Nat) : Int) := by
  have h1 := bits_or_u64_nat (a * 2 ^ s) b (by omega) (by omega)
  rw [h1]
  congr 1
  have h2 := Nat.shiftLeft_add_eq_or_of_lt hb a
  rw [Nat.shiftLeft_eq] at h2
  exact h2.symm
/-- All numbers ahead of the first loop. -/
structure Nums (hi lo y P Q v v1 v0 U N u1 u0 : Nat) : Prop where
  ev_ : v = y * P
  vlo : 9223372036854775808 ≤ v
  vhi : v < 18446744073709551616
  vv : v1 * 4294967296 + v0 = v
  v1lo : 2147483648 ≤ v1
  v1hi : v1 < 4294967296
  v0hi : v0 < 4294967296
  eU_ : U < v
  eu1_ : u1 < 4294967296
  eu0_ : u0 < 4294967296
  all : (U * 4294967296 + u1) * 4294967296 + u0 = (hi * 18446744073709551616 + lo) * P
theorem nums {hi lo y s P Q : Nat} (S : Shf y s P Q) (hy : hi < y) (hl : lo < 18446744073709551616) :
    Nums hi lo y P Q (y * P) (y * P / 4294967296) (y * P % 4294967296) (hi * P + lo / Q) (lo * P % 18446744073709551616) (lo * P % 18446744073709551616 / 4294967296) (lo * P % 18446744073709551616 % 4294967296) := by
  have h1 := S.lo
  have h2 := S.hi
  have hQ : 0 < Q := by
    rcases Nat.eq_zero_or_pos Q with h | h
    · have := S.pq; rw [h] at this; simp at this
    · exact h
  have hd : lo / Q < P := (Nat.div_lt_iff_lt_mul hQ).2 (by rw [S.pq]; exact hl)
  have hm : (hi + 1) * P ≤ y * P := Nat.mul_le_mul_right _ hy
  rw [Nat.add_mul] at hm
  have hlo : lo * P = lo / Q * 18446744073709551616 + lo * P % 18446744073709551616 := by
    have e : lo * P / 18446744073709551616 = lo / Q := by
      rw [← S.pq, Nat.mul_comm lo P]
      exact Nat.mul_div_mul_left lo Q S.pos
    rw [← e]
    have := Nat.div_add_mod (lo * P) 18446744073709551616
    omega
  refine ⟨rfl, h1, h2, by omega, by omega, by omega, by omega, by omega, by omega, by omega, ?_⟩
  rw [Nat.add_mul (hi * 18446744073709551616), Nat.mul_right_comm]
  generalize lo * P % 18446744073709551616 = c at hlo ⊢
  rw [hlo]
  generalize hi * P = a
  generalize lo / Q = b
  omega
/-- The end. -/
theorem Nums.ends {hi lo y P Q v v1 v0 U N u1 u0 : Nat} (h : Nums hi lo y P Q v v1 v0 U N u1 u0) (hP : 0 < P) :
    (U * 4294967296 + u1) / v * 4294967296 + ((U * 4294967296 + u1) % v * 4294967296 + u0) / v = (hi * 18446744073709551616 + lo) / y ∧
    ((U * 4294967296 + u1) % v * 4294967296 + u0) % v / P = (hi * 18446744073709551616 + lo) % y := by
  have hv := h.vlo
  obtain ⟨a, b⟩ := both (U * 4294967296 + u1) u0 (v := v) (B := 4294967296) (by omega)
  rw [a, b, h.all, h.ev_]
  exact shifted _ y P hP
/-- What is left of a product that wraps. -/
theorem left_wrap (U u1 q v : Nat) (hq : q = (U * 4294967296 + u1) / v) (hv : 0 < v) (hv' : v < 18446744073709551616) :
    IntKind.u64.wrap (IntKind.u64.wrap (IntKind.u64.wrap ((U : Int) * 4294967296) + (u1 : Int)) - IntKind.u64.wrap ((q : Int) * (v : Int))) = (((U * 4294967296 + u1) % v : Nat) : Int) := by
  have e := Nat.div_add_mod (U * 4294967296 + u1) v
  rw [← hq] at e
  have hlt := Nat.mod_lt (U * 4294967296 + u1) hv
  generalize (U * 4294967296 + u1) % v = r at *
  have e2 : (q : Int) * (v : Int) = ((v * q : Nat) : Int) := by rw [Int.natCast_mul, Int.mul_comm]
  rw [e2]
  generalize v * q = m at *
  simp only [IntKind.wrap_u64]
  omega
end Go.Proofs.Ytglpnpjjjihghaa.DivLaw

/-
  What math/bits.Div64 comes to, over this seat's translation: a contract for callers.
-/
namespace Go.Proofs.Ytglpnpjjjihghaa
open Go.RowKit Go.Lib Go.Proofs.Ytglpnpjjjihghaa.DivLaw

theorem first_of {U u1 v v1 v0 : Nat} (h : U < v) (hv : v < 18446744073709551616) (hU : U < v1 * 4294967296 + v0) (h0v : v0 < 4294967296) (h1v : 2147483648 ≤ v1) (h2v : v1 < 4294967296) (hu1 : u1 < 4294967296) :
    ∃ qa ra : Nat, Hid (Inv U u1 v1 v0 qa ra) ∧ IntKind.u64.wrap ((U : Int) / (v1 : Int)) = (qa : Int) ∧ IntKind.u64.wrap ((U : Int) - IntKind.u64.wrap ((qa : Int) * (v1 : Int))) = (ra : Int) := by
  have I0 := Inv.first hU h0v h1v h2v hu1
  have hle := I0.le
  refine ⟨U / v1, U % v1, I0, ?_, ?_⟩
  · rw [← Int.natCast_ediv]; exact Mul64.wrapN _ (by omega)
  · have h9 := Nat.div_add_mod U v1
    have h8 := Nat.mod_lt U (show 0 < v1 by omega)
    rw [Mul64.mulN, Nat.mul_comm]
    generalize v1 * (U / v1) = m at *
    rw [Mul64.wrapN _ (by omega), IntKind.wrap_u64]
    omega
set_option maxHeartbeats 3200000 in
set_option maxRecDepth 1000000 in
theorem div_big (hi lo y s P Q v v1 v0 U N u1 u0 D M : Nat) (w : World) (hD : (hi * 18446744073709551616 + lo) / y = D) (hM : (hi * 18446744073709551616 + lo) % y = M) (h1 : 0 < hi) (h2 : hi < y) (S : Shf y s P Q) (hn : Nums hi lo y P Q v v1 v0 U N u1 u0)
    (hL : Calls Try.prog 139 #[.int .u64 y] w fun e w' => e = .returned (.int .i64 s) ∧ w' = w)
    (e1 : IntKind.u64.wrap ((y : Int) * (P : Int)) = (v : Int)) (e2 : (v : Int) / 4294967296 = (v1 : Int)) (e3 : bits .and .u64 (v : Int) 4294967295 = (v0 : Int))
    (e4 : bits .or .u64 (IntKind.u64.wrap ((hi : Int) * (P : Int))) ((lo : Int) / 2 ^ (64 - s)) = (U : Int)) (e5 : IntKind.u64.wrap ((lo : Int) * (P : Int)) = (N : Int)) (e6 : (N : Int) / 4294967296 = (u1 : Int)) (e7 : bits .and .u64 (N : Int) 4294967295 = (u0 : Int)) :
    Calls Try.prog 137 #[.int .u64 hi, .int .u64 lo, .int .u64 y] w fun e w' => e = .returned (.tuple #[.int .u64 (D : Int), .int .u64 (M : Int)]) ∧ w' = w := by
  have hs := S.lt
  have hP : (2 : Int) ^ s = (P : Int) := by rw [S.eP]; exact (Int.natCast_pow 2 s).symm
  have HL := Lib.hid hL
  have HN := Lib.hid hn
  have HVV := Lib.hid hn.vv
  have h1v := hn.v1lo
  have h2v := hn.v1hi
  have h0v := hn.v0hi
  have hu1 := hn.eu1_
  have HU : Hid (U < v1 * 4294967296 + v0) := by
    have := hn.eU_
    rw [← hn.vv] at this
    exact this
  have HS := Lib.hid S
  have HD := Lib.hid hD
  have HM9 := Lib.hid hM
  have f0 : ¬ v1 = 0 := by omega
  obtain ⟨qa, ra, I0, f1, f2⟩ := first_of hn.eU_ hn.vhi HU.out h0v h1v h2v hu1
  have hfl := I0.out.le
  clear hL hn S hD hM
  have z1 : ((y : Int) == 0) = false := by rw [beq_eq_false_iff_ne]; omega
  have z2 : ((hi : Int) == 0) = false := by rw [beq_eq_false_iff_ne]; omega
  have z3 : ¬ (y : Int) ≤ (hi : Int) := by omega
  go_enter Try.func137, Try.ntmps137
  go_wp2_with fail
  refine HL.out.mono ?_
  rintro e w' ⟨rfl, hw'⟩
  subst w'
  clear HL
  have g0 := True.intro
  have g1 := True.intro
  have g2 := True.intro
  go_wp2_with fail
  go_loopg [15, 16] 4294967298 (fun kx s9 t9 wr => ∃ q r : Nat, s9 = .int .u64 q ∧ t9 = .int .u64 r ∧ q ≤ kx ∧ Hid (Inv U u1 v1 v0 q r) ∧ wr = w)
  case atStart => exact ⟨_, _, rfl, rfl, by omega, I0, rfl⟩
  case round =>
    clear I0 f0 f1 f2 g0 g1 g2
    obtain ⟨q, r, rfl, rfl, hkx, HI, rfl⟩ := hrel
    have hq := HI.out.le
    have hr := HI.out.lt
    obtain ⟨m, hm⟩ : ∃ m, m = q * v0 := ⟨_, rfl⟩
    have hmle : m ≤ 4294967297 * 4294967295 := by rw [hm]; exact Nat.mul_le_mul hq (by omega)
    have kw : IntKind.u64.wrap ((q : Int) * (v0 : Int)) = (m : Int) := by rw [Mul64.mulN, ← hm]; exact Mul64.wrapN _ (by omega)
    have HM := Lib.hid hm
    clear hm
    by_cases c1 : 4294967296 ≤ q
    · have c1z : (4294967296 : Int) ≤ (q : Int) := by omega
      have HT : Hid (4294967296 ≤ q ∨ 4294967296 * r + u1 < q * v0) := .inl c1
      have hq1 : 1 ≤ q := (HI.out.more HU.out h1v hu1 HT.out).1
      have kz : (q : Int) - 1 = ((q - 1 : Nat) : Int) := by omega
      by_cases hb : r + v1 < 4294967296
      · have hbz : ¬ (4294967296 : Int) ≤ (r : Int) + (v1 : Int) := by omega
        have I2 : Hid (Inv U u1 v1 v0 (q - 1) (r + v1)) := HI.out.next HU.out h1v hu1 HT.out hb
        clear HI HT
        go_wp2_with fail
        go_roundg (q - 1)
        case measure => omega
        case rel => exact ⟨q - 1, r + v1, by first | rfl | (congr 1; omega), by first | rfl | go_num, Nat.le_refl _, I2, rfl⟩
      · have hbz : (4294967296 : Int) ≤ (r : Int) + (v1 : Int) := by omega
        have HQ : Hid (q - 1 = (U * 4294967296 + u1) / v) := by
          have h9 := HI.out.broke HU.out h0v h1v hu1 HT.out (by omega)
          rw [HVV.out] at h9
          exact h9
        clear HI HT hkx hb
        obtain ⟨qq, hqq⟩ : ∃ z, z = q - 1 := ⟨_, rfl⟩
        rw [← hqq] at HQ
        have kz2 : (q : Int) - 1 = (qq : Int) := by omega
        have kz3 : ((q - 1 : Nat) : Int) = (qq : Int) := by omega
        clear hqq kz
        obtain ⟨qA, rfl⟩ : ∃ z, z = qq := ⟨_, rfl⟩
        obtain ⟨wo, rfl⟩ : ∃ wo : World, wo = wr := ⟨_, rfl⟩
        have hvp : 0 < v := by have := HN.out.vlo; omega
        have hvh := HN.out.vhi
        have hqA : qA < 4294967296 := by rw [HQ.out]; exact quo_lt HN.out.eU_ hu1
        have t1 := left_wrap U u1 qA v HQ.out hvp hvh
        obtain ⟨R, hR⟩ : ∃ z, z = (U * 4294967296 + u1) % v := ⟨_, rfl⟩
        rw [← hR] at t1
        have HRv : Hid (R < v) := by
          show R < v
          rw [hR]; exact Nat.mod_lt _ hvp
        have HU2 : Hid (R < v1 * 4294967296 + v0) := by
          have := HRv.out
          rw [← HVV.out] at this
          exact this
        have HRe := Lib.hid hR
        have HQA := Lib.hid HQ.out
        have hu1a := hu1
        clear hR HQ hu1 HU
        have HU := HU2
        have hu1 := HN.out.eu0_
        have f0 : ¬ v1 = 0 := by omega
        obtain ⟨qb, rb, I0, f1, f2⟩ := first_of HRv.out hvh HU.out h0v h1v h2v hu1
        have hfl2 := I0.out.le
        have HVH : Hid (0 < v ∧ v < 18446744073709551616) := ⟨hvp, hvh⟩
        clear hvp hvh
        have g0 := True.intro
        have g1 := True.intro
        have g2 := True.intro
        go_wp2_with fail
        go_loopg [18, 16] 4294967298 (fun kx s9 t9 wr => ∃ q r : Nat, s9 = .int .u64 q ∧ t9 = .int .u64 r ∧ q ≤ kx ∧ Hid (Inv R u0 v1 v0 q r) ∧ wr = wo)
        case atStart => exact ⟨_, _, rfl, rfl, by omega, I0, rfl⟩
        case round =>
          clear I0 f0 f1 f2 g0 g1 g2 t1
          obtain ⟨q, r, rfl, rfl, hkx, HI, rfl⟩ := hrel
          have hq := HI.out.le
          have hr := HI.out.lt
          obtain ⟨m, hm⟩ : ∃ m, m = q * v0 := ⟨_, rfl⟩
          have hmle : m ≤ 4294967297 * 4294967295 := by rw [hm]; exact Nat.mul_le_mul hq (by omega)
          have kw : IntKind.u64.wrap ((q : Int) * (v0 : Int)) = (m : Int) := by rw [Mul64.mulN, ← hm]; exact Mul64.wrapN _ (by omega)
          have HM := Lib.hid hm
          clear hm
          by_cases c1 : 4294967296 ≤ q
          · have c1z : (4294967296 : Int) ≤ (q : Int) := by omega
            have HT : Hid (4294967296 ≤ q ∨ 4294967296 * r + u0 < q * v0) := .inl c1
            have hq1 : 1 ≤ q := (HI.out.more HU.out h1v hu1 HT.out).1
            have kz : (q : Int) - 1 = ((q - 1 : Nat) : Int) := by omega
            by_cases hb : r + v1 < 4294967296
            · have hbz : ¬ (4294967296 : Int) ≤ (r : Int) + (v1 : Int) := by omega
              have I2 : Hid (Inv R u0 v1 v0 (q - 1) (r + v1)) := HI.out.next HU.out h1v hu1 HT.out hb
              clear HI HT
              go_wp2_with fail
              go_roundg (q - 1)
              case measure => omega
              case rel => exact ⟨q - 1, r + v1, by first | rfl | (congr 1; omega), by first | rfl | go_num, Nat.le_refl _, I2, rfl⟩
            · have hbz : (4294967296 : Int) ≤ (r : Int) + (v1 : Int) := by omega
              have HQ : Hid (q - 1 = (R * 4294967296 + u0) / v) := by
                have h9 := HI.out.broke HU.out h0v h1v hu1 HT.out (by omega)
                rw [HVV.out] at h9
                exact h9
              clear HI HT hkx hb
              obtain ⟨qq, hqq⟩ : ∃ z, z = q - 1 := ⟨_, rfl⟩
              rw [← hqq] at HQ
              have kz2 : (q : Int) - 1 = (qq : Int) := by omega
              have kz3 : ((q - 1 : Nat) : Int) = (qq : Int) := by omega
              clear hqq kz
              obtain ⟨qB, rfl⟩ : ∃ z, z = qq := ⟨_, rfl⟩
              have hqB : qB < 4294967296 := by rw [HQ.out]; exact quo_lt HRv.out hu1
              have t3 := left_wrap R u0 qB v HQ.out HVH.out.1 HVH.out.2
              have HE := Lib.hid (HN.out.ends HS.out.pos)
              rw [← HQA.out, ← HRe.out, ← HQ.out, HD.out, HM9.out] at HE
              obtain ⟨C, hC⟩ : ∃ z, z = (R * 4294967296 + u0) % v := ⟨_, rfl⟩
              rw [← hC] at t3 HE
              clear hC HQ
              go_wp2_with fail
              go_ret2
              exact ⟨ret2_int (by have := HE.out.1; omega) (by rw [← HE.out.2]; exact (Int.natCast_ediv C P).symm), rfl⟩
          · have c1z : ¬ (4294967296 : Int) ≤ (q : Int) := by omega
            by_cases c2 : 4294967296 * r + u0 < m
            · have c2z : 4294967296 * (r : Int) + (u0 : Int) < (m : Int) := by omega
              have HT : Hid (4294967296 ≤ q ∨ 4294967296 * r + u0 < q * v0) := .inr (HM.out ▸ c2)
              have hq1 : 1 ≤ q := (HI.out.more HU.out h1v hu1 HT.out).1
              have kz : (q : Int) - 1 = ((q - 1 : Nat) : Int) := by omega
              by_cases hb : r + v1 < 4294967296
              · have hbz : ¬ (4294967296 : Int) ≤ (r : Int) + (v1 : Int) := by omega
                have I2 : Hid (Inv R u0 v1 v0 (q - 1) (r + v1)) := HI.out.next HU.out h1v hu1 HT.out hb
                clear HI HT
                go_wp2_with fail
                go_roundg (q - 1)
                case measure => omega
                case rel => exact ⟨q - 1, r + v1, by first | rfl | (congr 1; omega), by first | rfl | go_num, Nat.le_refl _, I2, rfl⟩
              · have hbz : (4294967296 : Int) ≤ (r : Int) + (v1 : Int) := by omega
                have HQ : Hid (q - 1 = (R * 4294967296 + u0) / v) := by
                  have h9 := HI.out.broke HU.out h0v h1v hu1 HT.out (by omega)
                  rw [HVV.out] at h9
                  exact h9
                clear HI HT hkx hb
                obtain ⟨qq, hqq⟩ : ∃ z, z = q - 1 := ⟨_, rfl⟩
                rw [← hqq] at HQ
                have kz2 : (q : Int) - 1 = (qq : Int) := by omega
                have kz3 : ((q - 1 : Nat) : Int) = (qq : Int) := by omega
                clear hqq kz
                obtain ⟨qB, rfl⟩ : ∃ z, z = qq := ⟨_, rfl⟩
                have hqB : qB < 4294967296 := by rw [HQ.out]; exact quo_lt HRv.out hu1
                have t3 := left_wrap R u0 qB v HQ.out HVH.out.1 HVH.out.2
                have HE := Lib.hid (HN.out.ends HS.out.pos)
                rw [← HQA.out, ← HRe.out, ← HQ.out, HD.out, HM9.out] at HE
                obtain ⟨C, hC⟩ : ∃ z, z = (R * 4294967296 + u0) % v := ⟨_, rfl⟩
                rw [← hC] at t3 HE
                clear hC HQ
                go_wp2_with fail
                go_ret2
                exact ⟨ret2_int (by have := HE.out.1; omega) (by rw [← HE.out.2]; exact (Int.natCast_ediv C P).symm), rfl⟩
            · have c2z : ¬ 4294967296 * (r : Int) + (u0 : Int) < (m : Int) := by omega
              have HQ : Hid (q = (R * 4294967296 + u0) / v) := by
                have h9 := HI.out.found (by omega) (by rw [← HM.out]; omega)
                rw [HVV.out] at h9
                exact h9
              clear HI hkx
              obtain ⟨qB, rfl⟩ : ∃ z, z = q := ⟨_, rfl⟩
              have hqB : qB < 4294967296 := by rw [HQ.out]; exact quo_lt HRv.out hu1
              have t3 := left_wrap R u0 qB v HQ.out HVH.out.1 HVH.out.2
              have HE := Lib.hid (HN.out.ends HS.out.pos)
              rw [← HQA.out, ← HRe.out, ← HQ.out, HD.out, HM9.out] at HE
              obtain ⟨C, hC⟩ : ∃ z, z = (R * 4294967296 + u0) % v := ⟨_, rfl⟩
              rw [← hC] at t3 HE
              clear hC HQ
              go_wp2_with fail
              go_ret2
              exact ⟨ret2_int (by have := HE.out.1; omega) (by rw [← HE.out.2]; exact (Int.natCast_ediv C P).symm), rfl⟩
    · have c1z : ¬ (4294967296 : Int) ≤ (q : Int) := by omega
      by_cases c2 : 4294967296 * r + u1 < m
      · have c2z : 4294967296 * (r : Int) + (u1 : Int) < (m : Int) := by omega
        have HT : Hid (4294967296 ≤ q ∨ 4294967296 * r + u1 < q * v0) := .inr (HM.out ▸ c2)
        have hq1 : 1 ≤ q := (HI.out.more HU.out h1v hu1 HT.out).1
        have kz : (q : Int) - 1 = ((q - 1 : Nat) : Int) := by omega
        by_cases hb : r + v1 < 4294967296
        · have hbz : ¬ (4294967296 : Int) ≤ (r : Int) + (v1 : Int) := by omega
          have I2 : Hid (Inv U u1 v1 v0 (q - 1) (r + v1)) := HI.out.next HU.out h1v hu1 HT.out hb
          clear HI HT
          go_wp2_with fail
          go_roundg (q - 1)
          case measure => omega
          case rel => exact ⟨q - 1, r + v1, by first | rfl | (congr 1; omega), by first | rfl | go_num, Nat.le_refl _, I2, rfl⟩
        · have hbz : (4294967296 : Int) ≤ (r : Int) + (v1 : Int) := by omega
          have HQ : Hid (q - 1 = (U * 4294967296 + u1) / v) := by
            have h9 := HI.out.broke HU.out h0v h1v hu1 HT.out (by omega)
            rw [HVV.out] at h9
            exact h9
          clear HI HT hkx hb
          obtain ⟨qq, hqq⟩ : ∃ z, z = q - 1 := ⟨_, rfl⟩
          rw [← hqq] at HQ
          have kz2 : (q : Int) - 1 = (qq : Int) := by omega
          have kz3 : ((q - 1 : Nat) : Int) = (qq : Int) := by omega
          clear hqq kz
          obtain ⟨qA, rfl⟩ : ∃ z, z = qq := ⟨_, rfl⟩
          obtain ⟨wo, rfl⟩ : ∃ wo : World, wo = wr := ⟨_, rfl⟩
          have hvp : 0 < v := by have := HN.out.vlo; omega
          have hvh := HN.out.vhi
          have hqA : qA < 4294967296 := by rw [HQ.out]; exact quo_lt HN.out.eU_ hu1
          have t1 := left_wrap U u1 qA v HQ.out hvp hvh
          obtain ⟨R, hR⟩ : ∃ z, z = (U * 4294967296 + u1) % v := ⟨_, rfl⟩
          rw [← hR] at t1
          have HRv : Hid (R < v) := by
            show R < v
            rw [hR]; exact Nat.mod_lt _ hvp
          have HU2 : Hid (R < v1 * 4294967296 + v0) := by
            have := HRv.out
            rw [← HVV.out] at this
            exact this
          have HRe := Lib.hid hR
          have HQA := Lib.hid HQ.out
          have hu1a := hu1
          clear hR HQ hu1 HU
          have HU := HU2
          have hu1 := HN.out.eu0_
          have f0 : ¬ v1 = 0 := by omega
          obtain ⟨qb, rb, I0, f1, f2⟩ := first_of HRv.out hvh HU.out h0v h1v h2v hu1
          have hfl2 := I0.out.le
          have HVH : Hid (0 < v ∧ v < 18446744073709551616) := ⟨hvp, hvh⟩
          clear hvp hvh
          have g0 := True.intro
          have g1 := True.intro
          have g2 := True.intro
          go_wp2_with fail
          go_loopg [18, 16] 4294967298 (fun kx s9 t9 wr => ∃ q r : Nat, s9 = .int .u64 q ∧ t9 = .int .u64 r ∧ q ≤ kx ∧ Hid (Inv R u0 v1 v0 q r) ∧ wr = wo)
          case atStart => exact ⟨_, _, rfl, rfl, by omega, I0, rfl⟩
          case round =>
            clear I0 f0 f1 f2 g0 g1 g2 t1
            obtain ⟨q, r, rfl, rfl, hkx, HI, rfl⟩ := hrel
            have hq := HI.out.le
            have hr := HI.out.lt
            obtain ⟨m, hm⟩ : ∃ m, m = q * v0 := ⟨_, rfl⟩
            have hmle : m ≤ 4294967297 * 4294967295 := by rw [hm]; exact Nat.mul_le_mul hq (by omega)
            have kw : IntKind.u64.wrap ((q : Int) * (v0 : Int)) = (m : Int) := by rw [Mul64.mulN, ← hm]; exact Mul64.wrapN _ (by omega)
            have HM := Lib.hid hm
            clear hm
            by_cases c1 : 4294967296 ≤ q
            · have c1z : (4294967296 : Int) ≤ (q : Int) := by omega
              have HT : Hid (4294967296 ≤ q ∨ 4294967296 * r + u0 < q * v0) := .inl c1
              have hq1 : 1 ≤ q := (HI.out.more HU.out h1v hu1 HT.out).1
              have kz : (q : Int) - 1 = ((q - 1 : Nat) : Int) := by omega
              by_cases hb : r + v1 < 4294967296
              · have hbz : ¬ (4294967296 : Int) ≤ (r : Int) + (v1 : Int) := by omega
                have I2 : Hid (Inv R u0 v1 v0 (q - 1) (r + v1)) := HI.out.next HU.out h1v hu1 HT.out hb
                clear HI HT
                go_wp2_with fail
                go_roundg (q - 1)
                case measure => omega
                case rel => exact ⟨q - 1, r + v1, by first | rfl | (congr 1; omega), by first | rfl | go_num, Nat.le_refl _, I2, rfl⟩
              · have hbz : (4294967296 : Int) ≤ (r : Int) + (v1 : Int) := by omega
                have HQ : Hid (q - 1 = (R * 4294967296 + u0) / v) := by
                  have h9 := HI.out.broke HU.out h0v h1v hu1 HT.out (by omega)
                  rw [HVV.out] at h9
                  exact h9
                clear HI HT hkx hb
                obtain ⟨qq, hqq⟩ : ∃ z, z = q - 1 := ⟨_, rfl⟩
                rw [← hqq] at HQ
                have kz2 : (q : Int) - 1 = (qq : Int) := by omega
                have kz3 : ((q - 1 : Nat) : Int) = (qq : Int) := by omega
                clear hqq kz
                obtain ⟨qB, rfl⟩ : ∃ z, z = qq := ⟨_, rfl⟩
                have hqB : qB < 4294967296 := by rw [HQ.out]; exact quo_lt HRv.out hu1
                have t3 := left_wrap R u0 qB v HQ.out HVH.out.1 HVH.out.2
                have HE := Lib.hid (HN.out.ends HS.out.pos)
                rw [← HQA.out, ← HRe.out, ← HQ.out, HD.out, HM9.out] at HE
                obtain ⟨C, hC⟩ : ∃ z, z = (R * 4294967296 + u0) % v := ⟨_, rfl⟩
                rw [← hC] at t3 HE
                clear hC HQ
                go_wp2_with fail
                go_ret2
                exact ⟨ret2_int (by have := HE.out.1; omega) (by rw [← HE.out.2]; exact (Int.natCast_ediv C P).symm), rfl⟩
            · have c1z : ¬ (4294967296 : Int) ≤ (q : Int) := by omega
              by_cases c2 : 4294967296 * r + u0 < m
              · have c2z : 4294967296 * (r : Int) + (u0 : Int) < (m : Int) := by omega
                have HT : Hid (4294967296 ≤ q ∨ 4294967296 * r + u0 < q * v0) := .inr (HM.out ▸ c2)
                have hq1 : 1 ≤ q := (HI.out.more HU.out h1v hu1 HT.out).1
                have kz : (q : Int) - 1 = ((q - 1 : Nat) : Int) := by omega
                by_cases hb : r + v1 < 4294967296
                · have hbz : ¬ (4294967296 : Int) ≤ (r : Int) + (v1 : Int) := by omega
                  have I2 : Hid (Inv R u0 v1 v0 (q - 1) (r + v1)) := HI.out.next HU.out h1v hu1 HT.out hb
                  clear HI HT
                  go_wp2_with fail
                  go_roundg (q - 1)
                  case measure => omega
                  case rel => exact ⟨q - 1, r + v1, by first | rfl | (congr 1; omega), by first | rfl | go_num, Nat.le_refl _, I2, rfl⟩
                · have hbz : (4294967296 : Int) ≤ (r : Int) + (v1 : Int) := by omega
                  have HQ : Hid (q - 1 = (R * 4294967296 + u0) / v) := by
                    have h9 := HI.out.broke HU.out h0v h1v hu1 HT.out (by omega)
                    rw [HVV.out] at h9
                    exact h9
                  clear HI HT hkx hb
                  obtain ⟨qq, hqq⟩ : ∃ z, z = q - 1 := ⟨_, rfl⟩
                  rw [← hqq] at HQ
                  have kz2 : (q : Int) - 1 = (qq : Int) := by omega
                  have kz3 : ((q - 1 : Nat) : Int) = (qq : Int) := by omega
                  clear hqq kz
                  obtain ⟨qB, rfl⟩ : ∃ z, z = qq := ⟨_, rfl⟩
                  have hqB : qB < 4294967296 := by rw [HQ.out]; exact quo_lt HRv.out hu1
                  have t3 := left_wrap R u0 qB v HQ.out HVH.out.1 HVH.out.2
                  have HE := Lib.hid (HN.out.ends HS.out.pos)
                  rw [← HQA.out, ← HRe.out, ← HQ.out, HD.out, HM9.out] at HE
                  obtain ⟨C, hC⟩ : ∃ z, z = (R * 4294967296 + u0) % v := ⟨_, rfl⟩
                  rw [← hC] at t3 HE
                  clear hC HQ
                  go_wp2_with fail
                  go_ret2
                  exact ⟨ret2_int (by have := HE.out.1; omega) (by rw [← HE.out.2]; exact (Int.natCast_ediv C P).symm), rfl⟩
              · have c2z : ¬ 4294967296 * (r : Int) + (u0 : Int) < (m : Int) := by omega
                have HQ : Hid (q = (R * 4294967296 + u0) / v) := by
                  have h9 := HI.out.found (by omega) (by rw [← HM.out]; omega)
                  rw [HVV.out] at h9
                  exact h9
                clear HI hkx
                obtain ⟨qB, rfl⟩ : ∃ z, z = q := ⟨_, rfl⟩
                have hqB : qB < 4294967296 := by rw [HQ.out]; exact quo_lt HRv.out hu1
                have t3 := left_wrap R u0 qB v HQ.out HVH.out.1 HVH.out.2
                have HE := Lib.hid (HN.out.ends HS.out.pos)
                rw [← HQA.out, ← HRe.out, ← HQ.out, HD.out, HM9.out] at HE
                obtain ⟨C, hC⟩ : ∃ z, z = (R * 4294967296 + u0) % v := ⟨_, rfl⟩
                rw [← hC] at t3 HE
                clear hC HQ
                go_wp2_with fail
                go_ret2
                exact ⟨ret2_int (by have := HE.out.1; omega) (by rw [← HE.out.2]; exact (Int.natCast_ediv C P).symm), rfl⟩
      · have c2z : ¬ 4294967296 * (r : Int) + (u1 : Int) < (m : Int) := by omega
        have HQ : Hid (q = (U * 4294967296 + u1) / v) := by
          have h9 := HI.out.found (by omega) (by rw [← HM.out]; omega)
          rw [HVV.out] at h9
          exact h9
        clear HI hkx
        obtain ⟨qA, rfl⟩ : ∃ z, z = q := ⟨_, rfl⟩
        obtain ⟨wo, rfl⟩ : ∃ wo : World, wo = wr := ⟨_, rfl⟩
        have hvp : 0 < v := by have := HN.out.vlo; omega
        have hvh := HN.out.vhi
        have hqA : qA < 4294967296 := by rw [HQ.out]; exact quo_lt HN.out.eU_ hu1
        have t1 := left_wrap U u1 qA v HQ.out hvp hvh
        obtain ⟨R, hR⟩ : ∃ z, z = (U * 4294967296 + u1) % v := ⟨_, rfl⟩
        rw [← hR] at t1
        have HRv : Hid (R < v) := by
          show R < v
          rw [hR]; exact Nat.mod_lt _ hvp
        have HU2 : Hid (R < v1 * 4294967296 + v0) := by
          have := HRv.out
          rw [← HVV.out] at this
          exact this
        have HRe := Lib.hid hR
        have HQA := Lib.hid HQ.out
        have hu1a := hu1
        clear hR HQ hu1 HU
        have HU := HU2
        have hu1 := HN.out.eu0_
        have f0 : ¬ v1 = 0 := by omega
        obtain ⟨qb, rb, I0, f1, f2⟩ := first_of HRv.out hvh HU.out h0v h1v h2v hu1
        have hfl2 := I0.out.le
        have HVH : Hid (0 < v ∧ v < 18446744073709551616) := ⟨hvp, hvh⟩
        clear hvp hvh
        have g0 := True.intro
        have g1 := True.intro
        have g2 := True.intro
        go_wp2_with fail
        go_loopg [18, 16] 4294967298 (fun kx s9 t9 wr => ∃ q r : Nat, s9 = .int .u64 q ∧ t9 = .int .u64 r ∧ q ≤ kx ∧ Hid (Inv R u0 v1 v0 q r) ∧ wr = wo)
        case atStart => exact ⟨_, _, rfl, rfl, by omega, I0, rfl⟩
        case round =>
          clear I0 f0 f1 f2 g0 g1 g2 t1
          obtain ⟨q, r, rfl, rfl, hkx, HI, rfl⟩ := hrel
          have hq := HI.out.le
          have hr := HI.out.lt
          obtain ⟨m, hm⟩ : ∃ m, m = q * v0 := ⟨_, rfl⟩
          have hmle : m ≤ 4294967297 * 4294967295 := by rw [hm]; exact Nat.mul_le_mul hq (by omega)
          have kw : IntKind.u64.wrap ((q : Int) * (v0 : Int)) = (m : Int) := by rw [Mul64.mulN, ← hm]; exact Mul64.wrapN _ (by omega)
          have HM := Lib.hid hm
          clear hm
          by_cases c1 : 4294967296 ≤ q
          · have c1z : (4294967296 : Int) ≤ (q : Int) := by omega
            have HT : Hid (4294967296 ≤ q ∨ 4294967296 * r + u0 < q * v0) := .inl c1
            have hq1 : 1 ≤ q := (HI.out.more HU.out h1v hu1 HT.out).1
            have kz : (q : Int) - 1 = ((q - 1 : Nat) : Int) := by omega
            by_cases hb : r + v1 < 4294967296
            · have hbz : ¬ (4294967296 : Int) ≤ (r : Int) + (v1 : Int) := by omega
              have I2 : Hid (Inv R u0 v1 v0 (q - 1) (r + v1)) := HI.out.next HU.out h1v hu1 HT.out hb
              clear HI HT
              go_wp2_with fail
              go_roundg (q - 1)
              case measure => omega
              case rel => exact ⟨q - 1, r + v1, by first | rfl | (congr 1; omega), by first | rfl | go_num, Nat.le_refl _, I2, rfl⟩
            · have hbz : (4294967296 : Int) ≤ (r : Int) + (v1 : Int) := by omega
              have HQ : Hid (q - 1 = (R * 4294967296 + u0) / v) := by
                have h9 := HI.out.broke HU.out h0v h1v hu1 HT.out (by omega)
                rw [HVV.out] at h9
                exact h9
              clear HI HT hkx hb
              obtain ⟨qq, hqq⟩ : ∃ z, z = q - 1 := ⟨_, rfl⟩
              rw [← hqq] at HQ
              have kz2 : (q : Int) - 1 = (qq : Int) := by omega
              have kz3 : ((q - 1 : Nat) : Int) = (qq : Int) := by omega
              clear hqq kz
              obtain ⟨qB, rfl⟩ : ∃ z, z = qq := ⟨_, rfl⟩
              have hqB : qB < 4294967296 := by rw [HQ.out]; exact quo_lt HRv.out hu1
              have t3 := left_wrap R u0 qB v HQ.out HVH.out.1 HVH.out.2
              have HE := Lib.hid (HN.out.ends HS.out.pos)
              rw [← HQA.out, ← HRe.out, ← HQ.out, HD.out, HM9.out] at HE
              obtain ⟨C, hC⟩ : ∃ z, z = (R * 4294967296 + u0) % v := ⟨_, rfl⟩
              rw [← hC] at t3 HE
              clear hC HQ
              go_wp2_with fail
              go_ret2
              exact ⟨ret2_int (by have := HE.out.1; omega) (by rw [← HE.out.2]; exact (Int.natCast_ediv C P).symm), rfl⟩
          · have c1z : ¬ (4294967296 : Int) ≤ (q : Int) := by omega
            by_cases c2 : 4294967296 * r + u0 < m
            · have c2z : 4294967296 * (r : Int) + (u0 : Int) < (m : Int) := by omega
              have HT : Hid (4294967296 ≤ q ∨ 4294967296 * r + u0 < q * v0) := .inr (HM.out ▸ c2)
              have hq1 : 1 ≤ q := (HI.out.more HU.out h1v hu1 HT.out).1
              have kz : (q : Int) - 1 = ((q - 1 : Nat) : Int) := by omega
              by_cases hb : r + v1 < 4294967296
              · have hbz : ¬ (4294967296 : Int) ≤ (r : Int) + (v1 : Int) := by omega
                have I2 : Hid (Inv R u0 v1 v0 (q - 1) (r + v1)) := HI.out.next HU.out h1v hu1 HT.out hb
                clear HI HT
                go_wp2_with fail
                go_roundg (q - 1)
                case measure => omega
                case rel => exact ⟨q - 1, r + v1, by first | rfl | (congr 1; omega), by first | rfl | go_num, Nat.le_refl _, I2, rfl⟩
              · have hbz : (4294967296 : Int) ≤ (r : Int) + (v1 : Int) := by omega
                have HQ : Hid (q - 1 = (R * 4294967296 + u0) / v) := by
                  have h9 := HI.out.broke HU.out h0v h1v hu1 HT.out (by omega)
                  rw [HVV.out] at h9
                  exact h9
                clear HI HT hkx hb
                obtain ⟨qq, hqq⟩ : ∃ z, z = q - 1 := ⟨_, rfl⟩
                rw [← hqq] at HQ
                have kz2 : (q : Int) - 1 = (qq : Int) := by omega
                have kz3 : ((q - 1 : Nat) : Int) = (qq : Int) := by omega
                clear hqq kz
                obtain ⟨qB, rfl⟩ : ∃ z, z = qq := ⟨_, rfl⟩
                have hqB : qB < 4294967296 := by rw [HQ.out]; exact quo_lt HRv.out hu1
                have t3 := left_wrap R u0 qB v HQ.out HVH.out.1 HVH.out.2
                have HE := Lib.hid (HN.out.ends HS.out.pos)
                rw [← HQA.out, ← HRe.out, ← HQ.out, HD.out, HM9.out] at HE
                obtain ⟨C, hC⟩ : ∃ z, z = (R * 4294967296 + u0) % v := ⟨_, rfl⟩
                rw [← hC] at t3 HE
                clear hC HQ
                go_wp2_with fail
                go_ret2
                exact ⟨ret2_int (by have := HE.out.1; omega) (by rw [← HE.out.2]; exact (Int.natCast_ediv C P).symm), rfl⟩
            · have c2z : ¬ 4294967296 * (r : Int) + (u0 : Int) < (m : Int) := by omega
              have HQ : Hid (q = (R * 4294967296 + u0) / v) := by
                have h9 := HI.out.found (by omega) (by rw [← HM.out]; omega)
                rw [HVV.out] at h9
                exact h9
              clear HI hkx
              obtain ⟨qB, rfl⟩ : ∃ z, z = q := ⟨_, rfl⟩
              have hqB : qB < 4294967296 := by rw [HQ.out]; exact quo_lt HRv.out hu1
              have t3 := left_wrap R u0 qB v HQ.out HVH.out.1 HVH.out.2
              have HE := Lib.hid (HN.out.ends HS.out.pos)
              rw [← HQA.out, ← HRe.out, ← HQ.out, HD.out, HM9.out] at HE
              obtain ⟨C, hC⟩ : ∃ z, z = (R * 4294967296 + u0) % v := ⟨_, rfl⟩
              rw [← hC] at t3 HE
              clear hC HQ
              go_wp2_with fail
              go_ret2
              exact ⟨ret2_int (by have := HE.out.1; omega) (by rw [← HE.out.2]; exact (Int.natCast_ediv C P).symm), rfl⟩
end Go.Proofs.Ytglpnpjjjihghaa

/-
  What math/bits.Div64 comes to, over this seat's translation: a contract for callers.
-/
namespace Go.Proofs.Ytglpnpjjjihghaa
open Go.RowKit Go.Lib Go.Proofs.Ytglpnpjjjihghaa.DivLaw

theorem lz_any (y : Nat) (w : World) (h : y < 18446744073709551616) : Calls Try.prog 139 #[.int .u64 y] w fun e w' => e = .returned (.int .i64 (64 - Lib.bitLen y : Nat)) ∧ w' = w := by
  refine (Try.bits_LeadingZeros64 (y : Int) w (by omega) (by omega)).mono ?_
  rintro e w' ⟨rfl, rfl⟩
  have hl : Lib.bitLen y ≤ 64 := Lib.bitLen_le y 64 (Nat.le_refl _) (by simpa using h)
  refine ⟨?_, rfl⟩
  rw [Int.toNat_natCast, Int.ofNat_sub hl]
  rfl
set_option maxHeartbeats 1600000 in
set_option maxRecDepth 1000000 in
theorem div64_any (hi lo y : Nat) (w : World) (h2 : hi < y) (h3 : y < 18446744073709551616) (hlo : lo < 18446744073709551616) :
    Calls Try.prog 137 #[.int .u64 hi, .int .u64 lo, .int .u64 y] w fun e w' => e = .returned (.tuple #[.int .u64 (((hi * 18446744073709551616 + lo) / y : Nat) : Int), .int .u64 (((hi * 18446744073709551616 + lo) % y : Nat) : Int)]) ∧ ∃ n, w' = w.drewN n := by
  by_cases h1 : hi = 0
  · subst h1
    have e1 : (0 * 18446744073709551616 + lo) / y = lo / y := by rw [Nat.zero_mul, Nat.zero_add]
    have e2 : (0 * 18446744073709551616 + lo) % y = lo % y := by rw [Nat.zero_mul, Nat.zero_add]
    rw [e1, e2]
    obtain ⟨D, hD⟩ : ∃ D, D = lo / y := ⟨_, rfl⟩
    obtain ⟨M, hM⟩ : ∃ M, M = lo % y := ⟨_, rfl⟩
    rw [← hD, ← hM]
    have hDl : D ≤ lo := by rw [hD]; exact Nat.div_le_self _ _
    have f0 : ¬ y = 0 := by omega
    have f1 : IntKind.u64.wrap ((lo : Int) / (y : Int)) = (D : Int) := by rw [← Int.natCast_ediv, ← hD]; exact Mul64.wrapN _ (by omega)
    have f2 : (lo : Int) % (y : Int) = (M : Int) := by rw [← Int.natCast_emod, ← hM]
    have f3 : ((y : Int) == 0) = false := by rw [beq_eq_false_iff_ne]; omega
    have f4 : ¬ (y : Int) ≤ 0 := by omega
    have f5 : IntKind.u64.wrap ((lo : Int).tdiv (y : Int)) = (D : Int) := by rw [Int.tdiv_eq_ediv_of_nonneg (by omega)]; exact f1
    have f6 : (lo : Int).tmod (y : Int) = (M : Int) := by rw [Int.tmod_eq_emod_of_nonneg (by omega)]; exact f2
    clear e1 e2 hD hM
    go_enter Try.func137, Try.ntmps137
    go_wp2_with fail
    go_quiet (fail)
    go_wp2_with fail
    go_ret2
    exact ⟨rfl, _, rfl⟩
  · have S := shf y (by omega) h3
    have hn := nums (lo := lo) S h2 hlo
    have hM := hn.eU_
    have hhi := hn.vhi
    have hb : lo / 2 ^ (64 - (64 - Lib.bitLen y)) < 2 ^ (64 - Lib.bitLen y) := (Nat.div_lt_iff_lt_mul (Nat.pow_pos (by omega))).2 (by rw [S.pq]; exact hlo)
    have hor := or_add hi (lo / 2 ^ (64 - (64 - Lib.bitLen y))) (64 - Lib.bitLen y) hb (by omega)
    refine (div_big hi lo y _ _ _ _ _ _ _ _ _ _ _ _ w rfl rfl (by omega) h2 S hn (lz_any y w h3) ?_ ?_ ?_ ?_ ?_ ?_ ?_).mono ?_
    · rw [Mul64.mulN]; exact Mul64.wrapN _ S.hi
    · exact Mul64.divN _
    · exact Mul64.maskN _ S.hi
    · rw [Mul64.mulN, Mul64.wrapN _ (Nat.lt_of_le_of_lt (Nat.le_add_right _ _) (Nat.lt_trans hM hhi))]
      have e : (lo : Int) / 2 ^ (64 - (64 - Lib.bitLen y)) = ((lo / 2 ^ (64 - (64 - Lib.bitLen y)) : Nat) : Int) := by rw [Int.natCast_ediv, Int.natCast_pow]; rfl
      rw [e]
      exact hor
    · rw [Mul64.mulN]; exact Mul64.wrapM _
    · exact Mul64.divN _
    · exact Mul64.maskN _ (Nat.mod_lt _ (by omega))
    · rintro e w' ⟨rfl, rfl⟩
      exact ⟨rfl, 0, rfl⟩
end Go.Proofs.Ytglpnpjjjihghaa
