/-
  What complineref02.Div comes to, over this seat's translation: a contract for callers.
-/
import Derived.Test.YtblplkajgbbkdaaRf2b
namespace Go.Proofs.Ytblplkajgbbkdaa
open Go.RowKit Go.Lib Go.Sort

theorem bit_of (v im : Nat) : v / 65536 ^ (im / 16) % 65536 / 2 ^ (im % 16) % 2 = v / 2 ^ im % 2 := by
  have hs : im % 16 < 16 := Nat.mod_lt _ (by omega)
  have e1 : (65536 : Nat) = 2 ^ (im % 16) * 2 ^ (16 - im % 16) := by
    rw [← Nat.pow_add, show im % 16 + (16 - im % 16) = 16 by omega]
  have e2 : v / 65536 ^ (im / 16) % 65536 / 2 ^ (im % 16) = v / 65536 ^ (im / 16) / 2 ^ (im % 16) % 2 ^ (16 - im % 16) := by
    conv => lhs; arg 1; arg 2; rw [e1]
    exact Nat.mod_mul_right_div_self _ _ _
  have hd : 2 ∣ 2 ^ (16 - im % 16) := ⟨2 ^ (15 - im % 16), by rw [← Nat.pow_succ']; congr 1; omega⟩
  rw [e2, Nat.mod_mod_of_dvd _ hd, Nat.div_div_eq_div_mul]
  congr 2
  have e3 : (65536 : Nat) = 2 ^ 16 := rfl
  rw [e3, ← Nat.pow_mul, ← Nat.pow_add]
  congr 1
  omega
theorem half_of (v im : Nat) : v / 2 ^ im = 2 * (v / 2 ^ (im + 1)) + v / 2 ^ im % 2 := by
  rw [Nat.pow_succ, ← Nat.div_div_eq_div_mul]
  omega
/-- One bit more. -/
theorem bit_step {X c bt : Nat} (hc : 0 < c) (hb : bt < 2) :
    (c ≤ X % c * 2 + bt → (2 * X + bt) / c = X / c * 2 + 1 ∧ (2 * X + bt) % c = X % c * 2 + bt - c) ∧ (¬ c ≤ X % c * 2 + bt → (2 * X + bt) / c = X / c * 2 ∧ (2 * X + bt) % c = X % c * 2 + bt) := by
  have h := Nat.div_add_mod X c
  have hr := Nat.mod_lt X hc
  generalize X / c = q at *
  generalize X % c = r at *
  constructor
  · intro h1
    have e9 : c * (q * 2 + 1) = 2 * (c * q) + c := by rw [Nat.mul_add, Nat.mul_one, ← Nat.mul_assoc, Nat.mul_comm (c * q)]
    have e : 2 * X + bt = c * (q * 2 + 1) + (r * 2 + bt - c) := by
      rw [e9]
      generalize c * q = a at *
      omega
    rw [e]
    refine ⟨?_, ?_⟩
    · rw [Nat.mul_add_div hc, Nat.div_eq_of_lt (by omega), Nat.add_zero]
    · rw [Nat.mul_add_mod, Nat.mod_eq_of_lt (by omega)]
  · intro h1
    have e9 : c * (q * 2) = 2 * (c * q) := by rw [← Nat.mul_assoc, Nat.mul_comm (c * q)]
    have e : 2 * X + bt = c * (q * 2) + (r * 2 + bt) := by
      rw [e9]
      generalize c * q = a at *
      omega
    rw [e]
    refine ⟨?_, ?_⟩
    · rw [Nat.mul_add_div hc, Nat.div_eq_of_lt (by omega), Nat.add_zero]
    · rw [Nat.mul_add_mod, Nat.mod_eq_of_lt (by omega)]
theorem quo_small {v c m : Nat} (hq : v / c < 18446744073709551616) : v / 2 ^ (m + 1) / c < 9223372036854775808 := by
  rw [Nat.div_div_eq_div_mul, Nat.mul_comm, ← Nat.div_div_eq_div_mul]
  have h1 : v / c / 2 ^ (m + 1) ≤ v / c / 2 := Nat.div_le_div_left (by rw [Nat.pow_succ]; have := Nat.pow_pos (n := m) (show 0 < 2 by omega); omega) (by omega)
  omega
/-- The state of a division, m bits to go. -/
def DS (v c m q r : Nat) : Prop := q = v / 2 ^ m / c ∧ r = v / 2 ^ m % c
set_option maxHeartbeats 3200000 in
set_option maxRecDepth 100000 in
theorem rdiv_walk (v c n0 n1 n2 n3 n4 n5 n6 n7 : Nat) (w : World) (hn : digs 8 v = [n0, n1, n2, n3, n4, n5, n6, n7]) (hc : 0 < c) (hc2 : c < 9223372036854775808) (hq : v / c < 18446744073709551616) (hv : v < 340282366920938463463374607431768211456) :
    Calls Try.prog 57 #[.agg #[.int .u64 (n0 : Int), .int .u64 (n1 : Int), .int .u64 (n2 : Int), .int .u64 (n3 : Int), .int .u64 (n4 : Int), .int .u64 (n5 : Int), .int .u64 (n6 : Int), .int .u64 (n7 : Int)], .int .u64 c] w fun e w' => e = .returned (.tuple #[.int .u64 ((v / c : Nat) : Int), .int .u64 ((v % c : Nat) : Int), .int .i64 0]) ∧ Below w.heap.size w w' := by
  have HN := Lib.hid hn
  have HQ := Lib.hid hq
  have HV := Lib.hid hv
  obtain ⟨D, hD⟩ : ∃ D, D = v / c := ⟨_, rfl⟩
  obtain ⟨R, hR⟩ : ∃ R, R = v % c := ⟨_, rfl⟩
  rw [← hD, ← hR]
  have HD := Lib.hid hD
  have HR := Lib.hid hR
  clear hn hq hv hD hR
  have z1 : ((c : Int) == 0) = false := by rw [beq_eq_false_iff_ne]; omega
  go_enter Try.func57, Try.ntmps57
  go_wp2_with fail
  have HROW : Hid (RowU (w.alloc (.cells #[.int .u64 (n0 : Int), .int .u64 (n1 : Int), .int .u64 (n2 : Int), .int .u64 (n3 : Int), .int .u64 (n4 : Int), .int .u64 (n5 : Int), .int .u64 (n6 : Int), .int .u64 (n7 : Int)] 78)) w.heap.size (digs 8 v)) := by
    rw [HN.out]
    exact RowU.new w [n0, n1, n2, n3, n4, n5, n6, n7]
  have HBW : Hid (Below w.heap.size w (w.alloc (.cells #[.int .u64 (n0 : Int), .int .u64 (n1 : Int), .int .u64 (n2 : Int), .int .u64 (n3 : Int), .int .u64 (n4 : Int), .int .u64 (n5 : Int), .int .u64 (n6 : Int), .int .u64 (n7 : Int)] 78))) := (Below.refl _ _).alloc (Nat.le_refl _) _
  generalize w.alloc (.cells #[.int .u64 (n0 : Int), .int .u64 (n1 : Int), .int .u64 (n2 : Int), .int .u64 (n3 : Int), .int .u64 (n4 : Int), .int .u64 (n5 : Int), .int .u64 (n6 : Int), .int .u64 (n7 : Int)] 78) = w4 at HROW HBW ⊢
  go_loopw [7, 8, 9, 10, 11] (fun s7 s8 s9 _ _ wr => ∃ m q r : Nat, m ≤ 128 ∧ s9 = .int .i64 ((m : Int) - 1) ∧ s7 = .int .u64 q ∧ s8 = .int .u64 r ∧ Hid (DS v c m q r) ∧ wr = w4) (fun _ _ i _ _ _ => (intOf i + 1).toNat)
  case atStart =>
    refine ⟨128, 0, 0, by omega, rfl, rfl, rfl, ?_, rfl⟩
    have e : v / 2 ^ 128 = 0 := Nat.div_eq_of_lt HV.out
    exact ⟨by rw [e]; simp, by rw [e]; simp⟩
  case round =>
    obtain ⟨m, q, r, hm, rfl, rfl, rfl, HS, rfl⟩ := hrel
    by_cases h0 : m = 0
    · subst h0
      have hq' : q = D := by rw [HS.out.1, HD.out]; simp
      have hr' : r = R := by rw [HS.out.2, HR.out]; simp
      subst hq' hr'
      clear HS HD HR
      go_wp2_with fail
      go_ret3
      exact ⟨rfl, HBW.out⟩
    · obtain ⟨im, rfl⟩ : ∃ im, m = im + 1 := ⟨m - 1, by omega⟩
      rw [show (((im + 1 : Nat) : Int) - 1) = (im : Int) by omega]
      obtain ⟨j, hj⟩ : ∃ j, j = im / 16 := ⟨_, rfl⟩
      obtain ⟨s, hs⟩ : ∃ s, s = im % 16 := ⟨_, rfl⟩
      have hj8 : j < (digs 8 v).length := by rw [digs_len]; omega
      obtain ⟨nj, hnj⟩ : ∃ nj, nj = (digs 8 v)[j] := ⟨_, rfl⟩
      have cj := HROW.out.cell hj8
      rw [← hnj] at cj
      obtain ⟨z, hz⟩ : ∃ z, z = nj / 2 ^ s := ⟨_, rfl⟩
      obtain ⟨bt, hbt⟩ : ∃ bt, bt = z % 2 := ⟨_, rfl⟩
      have hbv : bt = v / 2 ^ im % 2 := by rw [hbt, hz, hnj, digs_at, hj, hs]; exact bit_of v im
      have hb2 : bt < 2 := by omega
      have HBS := Lib.hid (bit_step (X := v / 2 ^ (im + 1)) (c := c) (bt := bt) hc hb2)
      have hHalf := half_of v im
      rw [← hbv] at hHalf
      rw [← hHalf, ← HS.out.1, ← HS.out.2] at HBS
      have hrc : r < c := by rw [HS.out.2]; exact Nat.mod_lt _ hc
      have hq63 : q < 9223372036854775808 := by rw [HS.out.1]; exact quo_small HQ.out
      have ej : (im : Int) / 16 = (j : Int) := by omega
      have es : (im : Int) % 16 = (s : Int) := by omega
      have hs16 : s < 16 := by omega
      have ez : (nj : Int) / 2 ^ s = (z : Int) := by rw [hz, Int.natCast_ediv, Int.natCast_pow]; rfl
      have hnl : nj < 65536 := by rw [hnj, digs_at]; exact Nat.mod_lt _ (by omega)
      have hzl : z < 65536 := by rw [hz]; exact Nat.lt_of_le_of_lt (Nat.div_le_self _ _) hnl
      have eb : bits .and .u64 (z : Int) 1 = (bt : Int) := by
        have h := bits_and_u64_nat z 1 (by omega) (by omega)
        rw [Nat.and_one_is_mod, ← hbt] at h
        exact h
      have er : (r : Int) / 9223372036854775808 = 0 := by omega
      have eq63 : (q : Int) / 9223372036854775808 = 0 := by omega
      have him : im ≤ 127 := by omega
      have hj8' : j < 8 := by omega
      clear hj hs hnj hz hbt hbv hHalf hj8 HS
      by_cases hcc : c ≤ r * 2 + bt
      · obtain ⟨r2, hr2⟩ : ∃ r2, r2 = r * 2 + bt - c := ⟨_, rfl⟩
        have hds : Hid (DS v c im (q * 2 + 1) r2) := ⟨(HBS.out.1 hcc).1.symm, by rw [hr2]; exact (HBS.out.1 hcc).2.symm⟩
        have e2 : (r : Int) * 2 + (bt : Int) - (c : Int) = (r2 : Int) := by omega
        have hcz : (c : Int) ≤ (r : Int) * 2 + (bt : Int) := by omega
        have hr2b : r2 < c := by omega
        clear HBS hr2
        go_wp2_with fail
        go_roundw
        case rel => exact ⟨im, q * 2 + 1, r2, by omega, rfl, by first | rfl | go_num, by first | rfl | go_num, hds, by first | rfl | trivial⟩
        case measure => simp [intOf]
      · have hds : Hid (DS v c im (q * 2) (r * 2 + bt)) := ⟨(HBS.out.2 hcc).1.symm, (HBS.out.2 hcc).2.symm⟩
        have hcz : ¬ (c : Int) ≤ (r : Int) * 2 + (bt : Int) := by omega
        clear HBS
        go_wp2_with fail
        go_roundw
        case rel => exact ⟨im, q * 2, r * 2 + bt, by omega, rfl, by first | rfl | go_num, by first | rfl | go_num, hds, by first | rfl | trivial⟩
        case measure => simp [intOf]
theorem numV_digs (v : Nat) : ∃ n0 n1 n2 n3 n4 n5 n6 n7 : Nat, digs 8 v = [n0, n1, n2, n3, n4, n5, n6, n7] ∧ numV v = .agg #[.int .u64 (n0 : Int), .int .u64 (n1 : Int), .int .u64 (n2 : Int), .int .u64 (n3 : Int), .int .u64 (n4 : Int), .int .u64 (n5 : Int), .int .u64 (n6 : Int), .int .u64 (n7 : Int)] :=
  ⟨_, _, _, _, _, _, _, _, by simp only [digs, Nat.div_div_eq_div_mul], rfl⟩
theorem rdiv_any (v c : Nat) (w : World) (hc : 0 < c) (hc2 : c < 9223372036854775808) (hq : v / c < 18446744073709551616) (hv : v < 340282366920938463463374607431768211456) :
    Calls Try.prog 57 #[numV v, .int .u64 c] w fun e w' => e = .returned (.tuple #[.int .u64 ((v / c : Nat) : Int), .int .u64 ((v % c : Nat) : Int), .int .i64 0]) ∧ Below w.heap.size w w' := by
  obtain ⟨n0, n1, n2, n3, n4, n5, n6, n7, h1, h2⟩ := numV_digs v
  rw [h2]
  exact rdiv_walk v c n0 n1 n2 n3 n4 n5 n6 n7 w h1 hc hc2 hq hv
theorem rmul_num (a b : Nat) (w : World) (ha : a < 18446744073709551616) (hb : b < 18446744073709551616) :
    Calls Try.prog 52 #[.int .u64 a, .int .u64 b] w fun e w' => e = .returned (numV (a * b)) ∧ Below w.heap.size w w' := rmul_any a b _ _ _ _ _ _ _ _ w (dig4 a ha) (dig4 b hb)
set_option maxHeartbeats 800000 in
theorem rquota_any (T wt S : Nat) (w : World) (hT : T < 9223372036854775808) (hw : wt ≤ S) (h0 : 0 < S) (hS : S < 9223372036854775808) :
    Calls Try.prog 23 #[.int .i64 T, .int .i64 wt, .int .i64 S] w fun e w' => e = .returned (.tuple #[.int .i64 ((T * wt / S : Nat) : Int), .int .i64 ((T * wt % S : Nat) : Int)]) ∧ Below w.heap.size w w' := by
  have hq : T * wt / S ≤ T := by
    have := Nat.div_le_div_right (c := S) (Nat.mul_le_mul_left T hw)
    rw [Nat.mul_div_cancel _ h0] at this
    exact this
  have hr : T * wt % S < S := Nat.mod_lt _ h0
  have hm : T * wt ≤ 9223372036854775807 * 9223372036854775807 := Nat.mul_le_mul (by omega) (by omega)
  have HC := fun W => Lib.hid (rmul_num T wt W (by omega) (by omega))
  have HD := fun W => Lib.hid (rdiv_any (T * wt) S W h0 hS (by omega) (by omega))
  clear hm
  generalize T * wt / S = D at *
  generalize T * wt % S = M at *
  generalize numV (T * wt) = V at *
  have z3 : (0 : Int) ≤ (T : Int) := by omega
  go_enter Try.func23, Try.ntmps23
  go_wp2_with fail
  refine (HC _).out.mono ?_
  rintro e w1 ⟨rfl, hb1⟩
  have HB := Lib.hid hb1
  clear hb1
  go_wp2_with fail
  refine (HD _).out.mono ?_
  rintro e w2 ⟨rfl, hb2⟩
  have HB2 := Lib.hid (HB.out.trans (hb2.mono HB.out.size))
  clear hb2
  go_wp2_with fail
  go_ret2
  exact ⟨rfl, HB2.out⟩
end Go.Proofs.Ytblplkajgbbkdaa
