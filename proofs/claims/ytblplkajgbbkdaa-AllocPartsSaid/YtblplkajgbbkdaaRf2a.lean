/-
  The digits of a number; what complineref02.Of comes to, over this seat's translation: a contract for callers.
-/
import Derived.Test.YtblplkajgbbkdaaShr3
import Derived.LoopN
namespace Go.Proofs.Ytblplkajgbbkdaa
open Go.RowKit Go.Lib

/-- The digits of a number, the lowest first. -/
def digs : Nat → Nat → List Nat
  | 0, _ => []
  | n + 1, v => v % 65536 :: digs n (v / 65536)
theorem digs_len : ∀ n v, (digs n v).length = n
  | 0, _ => rfl
  | n + 1, v => by simp [digs, digs_len n]
theorem digs_at : ∀ {n v j : Nat} (h : j < (digs n v).length), (digs n v)[j] = v / 65536 ^ j % 65536
  | 0, _, _, h => by simp [digs] at h
  | n + 1, v, 0, _ => by simp [digs]
  | n + 1, v, j + 1, h => by
    have ih := digs_at (n := n) (v := v / 65536) (j := j) (by simpa [digs] using h)
    simp only [digs, List.getElem_cons_succ]
    rw [ih, Nat.div_div_eq_div_mul, Nat.pow_succ, Nat.mul_comm]
/-- What digits are worth. -/
def val : List Nat → Nat
  | [] => 0
  | x :: xs => x + 65536 * val xs
theorem digs_of : ∀ (ns : List Nat), (∀ x ∈ ns, x < 65536) → ns = digs ns.length (val ns)
  | [], _ => rfl
  | x :: xs, h => by
    have h1 := h x (by simp)
    have ih := digs_of xs fun y hy => h y (by simp [hy])
    simp only [List.length_cons, digs, val]
    have e1 : (x + 65536 * val xs) % 65536 = x := by omega
    have e2 : (x + 65536 * val xs) / 65536 = val xs := by omega
    rw [e1, e2, ← ih]
/-- A number of eight digits, as a value. -/
def numV (v : Nat) : Value := .agg #[.int .u64 ((v % 65536 : Nat) : Int), .int .u64 ((v / 65536 % 65536 : Nat) : Int), .int .u64 ((v / 4294967296 % 65536 : Nat) : Int), .int .u64 ((v / 281474976710656 % 65536 : Nat) : Int), .int .u64 ((v / 18446744073709551616 % 65536 : Nat) : Int), .int .u64 ((v / 1208925819614629174706176 % 65536 : Nat) : Int), .int .u64 ((v / 79228162514264337593543950336 % 65536 : Nat) : Int), .int .u64 ((v / 5192296858534827628530496329220096 % 65536 : Nat) : Int)]
theorem mask16 (a : Nat) (ha : a < 18446744073709551616) : bits .and .u64 (a : Int) 65535 = ((a % 65536 : Nat) : Int) := by
  have h := bits_and_u64_nat a 65535 ha (by omega)
  have e : a &&& 65535 = a % 65536 := Nat.and_two_pow_sub_one_eq_mod a 16
  rw [e] at h
  exact h
/-- The four digits of a word. -/
structure Dig4 (a x0 x1 x2 x3 : Nat) : Prop where
  k0 : bits .and .u64 (a : Int) 65535 = (x0 : Int)
  k1 : bits .and .u64 ((a : Int) / 65536) 65535 = (x1 : Int)
  k2 : bits .and .u64 ((a : Int) / 4294967296) 65535 = (x2 : Int)
  k3 : bits .and .u64 ((a : Int) / 281474976710656) 65535 = (x3 : Int)
  l0 : x0 ≤ 65535
  l1 : x1 ≤ 65535
  l2 : x2 ≤ 65535
  l3 : x3 ≤ 65535
  eq : a = x0 + 65536 * x1 + 4294967296 * x2 + 281474976710656 * x3
theorem dig4 (a : Nat) (h : a < 18446744073709551616) : Dig4 a (a % 65536) (a / 65536 % 65536) (a / 4294967296 % 65536) (a / 281474976710656 % 65536) := by
  refine ⟨mask16 a h, ?_, ?_, ?_, by omega, by omega, by omega, by omega, by omega⟩
  · rw [show (a : Int) / 65536 = ((a / 65536 : Nat) : Int) by omega]; exact mask16 _ (by omega)
  · rw [show (a : Int) / 4294967296 = ((a / 4294967296 : Nat) : Int) by omega]; exact mask16 _ (by omega)
  · rw [show (a : Int) / 281474976710656 = ((a / 281474976710656 : Nat) : Int) by omega]; exact mask16 _ (by omega)
set_option maxHeartbeats 1600000 in
set_option maxRecDepth 100000 in
theorem of_any (a x0 x1 x2 x3 : Nat) (w : World) (hd : Dig4 a x0 x1 x2 x3) :
    Calls Try.prog 55 #[.int .u64 0, .int .u64 a] w fun e w' => e = .returned (.agg #[.int .u64 x0, .int .u64 x1, .int .u64 x2, .int .u64 x3, .int .u64 0, .int .u64 0, .int .u64 0, .int .u64 0]) ∧ Below w.heap.size w w' := by
  have k0 := hd.k0
  have k1 := hd.k1
  have k2 := hd.k2
  have k3 := hd.k3
  have kz : bits .and .u64 0 65535 = 0 := by decide
  clear hd
  go_enter Try.func55, Try.ntmps55
  go_wp2_with fail
  refine wp_loop_rounds 5 ?_
  rw [rounds_succ]
  go_wp2_with fail
  rw [rounds_succ]
  go_wp2_with fail
  rw [rounds_succ]
  go_wp2_with fail
  rw [rounds_succ]
  go_wp2_with fail
  rw [rounds_succ]
  go_wp2_with fail
  exact bodyPost_ret (v := .agg #[.int .u64 x0, .int .u64 x1, .int .u64 x2, .int .u64 x3, .int .u64 0, .int .u64 0, .int .u64 0, .int .u64 0]) (by simp [results, Try.results55, go_sem]) rfl ⟨rfl, ((Below.refl _ _).alloc (Nat.le_refl _) _).alloc (by simp) _⟩
end Go.Proofs.Ytblplkajgbbkdaa
