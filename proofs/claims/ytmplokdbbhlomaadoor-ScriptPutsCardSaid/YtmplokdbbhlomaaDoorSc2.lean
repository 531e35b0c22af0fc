/-
  What num.Get comes to, over this seat's translation: a contract for callers.
-/
import Derived.Test.YtmplokdbbhlomaaDoorSc1
import Derived.Laws.Strings3
import Derived.Laws.DeepStrings4
import Derived.Laws.BitsAllLaws
import Derived.Laws.ShiftsVarLaws
import Derived.BigQuiet
import Derived.Deep.QuietTactic
namespace Go.Proofs.YtmplokdbbhlomaaDoor
open Go.RowKit

theorem bs_size (l : List UInt8) : (bs l).size = l.length := by
  unfold ByteArray.size
  simp
theorem index_bs (l : List UInt8) {k : Nat} (hk : k < l.length) (w : World) : (Instr.index 9 (.string (bs l)) (.int .i64 (k : Int))).run Tryd.prog w = .ok (.int .u8 (l[k].toNat : Int)) w := by
  rw [run_index_string w _ _ _ _ Tryd.underlying9, dif_pos ⟨by omega, by rw [bs_size]; omega⟩]
  congr 3
theorem slice_bs (l : List UInt8) {k : Nat} (hk : k ≤ l.length) (w : World) : (Instr.slice 9 (.string (bs l)) (some (.int .i64 (k : Int))) none none).run Tryd.prog w = .ok (.string (bs (l.drop k))) w := by
  rw [run_slice_string_from_if w _ _ _ _ Tryd.underlying9, if_pos ⟨by omega, by rw [bs_size]; omega⟩, bs_size]
  congr 2
  rw [ByteArray.extract_mk, List.take_of_length_le (by rw [List.length_drop]; omega)]
  rfl
set_option maxRecDepth 100000 in
theorem and_not128 : ∀ a : Fin 256, (a.val &&& (255 - 128)) = a.val % 128 := by decide
theorem u8_low (c : UInt8) : bits .andNot .u8 (c.toNat : Int) 128 = ((c.toNat % 128 : Nat) : Int) := by
  have hc := c.toNat_lt
  have h := u8_andNot_nat c.toNat 128 (by omega) (by omega)
  have e : ((128 : Nat) : Int) = 128 := rfl
  rw [e] at h
  rw [h, and_not128 ⟨c.toNat, hc⟩]
theorem getFrom_short {l : List UInt8} {k z : Nat} (h : l.length ≤ k) (hk : k < 10) : getFrom (l.drop k) k z = (0, [], 4) := by
  rw [List.drop_eq_nil_of_le h]
  unfold getFrom
  rw [if_neg (by omega)]
theorem getFrom_step {l : List UInt8} {k : Nat} (h : k < l.length) (hk : k < 10) (z : Nat) : getFrom (l.drop k) k z = if k = 9 ∧ 1 < l[k].toNat then (0, [], 3) else
    if l[k].toNat < 128 then (if l[k].toNat = 0 ∧ 0 < k then (0, [], 3) else (unzig (z + l[k].toNat * 2 ^ (7 * k)), l.drop (k + 1), 0)) else getFrom (l.drop (k + 1)) (k + 1) (z + l[k].toNat % 128 * 2 ^ (7 * k)) := by
  rw [List.drop_eq_getElem_cons h]
  conv => lhs; unfold getFrom
  rw [if_neg (by omega)]
theorem pow_top {k : Nat} (h : k ≤ 8) : 127 * 2 ^ (7 * k) < 18446744073709551616 := by
  have hp : (2 : Nat) ^ (7 * k) ≤ 2 ^ 56 := Nat.pow_le_pow_right (by decide) (by omega)
  have : (2 : Nat) ^ 56 = 72057594037927936 := by decide
  omega
theorem pow_up {z k m : Nat} (hz : z < 2 ^ (7 * k)) : z + m % 128 * 2 ^ (7 * k) < 2 ^ (7 * (k + 1)) := by
  rw [pow_step]
  have := Nat.mul_le_mul (show m % 128 ≤ 127 by omega) (Nat.le_refl (2 ^ (7 * k)))
  omega
theorem or_step {z k m : Nat} (hz : z < 2 ^ (7 * k)) (hk : k ≤ 9) (hm : m * 2 ^ (7 * k) < 18446744073709551616) : bits .or .u64 (z : Int) (IntKind.u64.wrap ((m : Int) * 2 ^ (7 * k))) = ((z + m * 2 ^ (7 * k) : Nat) : Int) := by
  have e : ((m : Int) * 2 ^ (7 * k)) = ((m * 2 ^ (7 * k) : Nat) : Int) := by simp
  have hp : (2 : Nat) ^ (7 * k) ≤ 2 ^ 63 := Nat.pow_le_pow_right (by decide) (by omega)
  have hw : IntKind.u64.wrap ((m * 2 ^ (7 * k) : Nat) : Int) = ((m * 2 ^ (7 * k) : Nat) : Int) := by
    rw [IntKind.wrap_u64]
    omega
  have h64 : (2 : Int) ^ 64 = 18446744073709551616 := by decide
  have h64n : (2 : Nat) ^ 63 = 9223372036854775808 := by decide
  rw [e, hw, bits_join_low .u64 64 (by decide) wraps_u64 (7 * k) (z : Int) _ (by omega) (by exact_mod_cast hz) (by rw [h64]; omega) (by omega) (by rw [← e]; exact Int.mul_emod_left _ _) (by rw [h64]; omega)]
  omega

theorem xor_comm64 (a b : Int) : bits .xor .i64 a b = bits .xor .i64 b a := by
  show IntKind.i64.wrap ((BitVec.ofInt 64 a ^^^ BitVec.ofInt 64 b).toNat : Int) = IntKind.i64.wrap ((BitVec.ofInt 64 b ^^^ BitVec.ofInt 64 a).toNat : Int)
  rw [BitVec.xor_comm]
theorem i64_xor0 (x : Nat) (hx : x < 9223372036854775808) : bits .xor .i64 (x : Int) 0 = (x : Int) := by
  show IntKind.i64.wrap ((BitVec.ofInt 64 (x : Int) ^^^ BitVec.ofInt 64 0).toNat : Int) = _
  have h1 : BitVec.ofInt 64 0 = 0#64 := by decide
  have h2 : (BitVec.ofInt 64 (x : Int)).toNat = x := by
    rw [BitVec.ofInt_natCast, BitVec.toNat_ofNat]; exact Nat.mod_eq_of_lt (by omega)
  rw [h1, BitVec.xor_zero, h2, IntKind.wrap_i64]
  omega
theorem unzig_even {y : Nat} (h : y % 2 = 0) : unzig y = ((y / 2 : Nat) : Int) := by unfold unzig; rw [if_pos h]
theorem unzig_odd {y : Nat} (h : ¬ y % 2 = 0) : unzig y = -((y / 2 : Nat) : Int) - 1 := by unfold unzig; rw [if_neg h]
theorem wrap_half {y : Nat} (h : y < 18446744073709551616) : IntKind.i64.wrap ((y : Int) / 2) = ((y / 2 : Nat) : Int) := by
  rw [IntKind.wrap_i64]
  omega
set_option maxRecDepth 100000 in
set_option maxHeartbeats 3200000 in
theorem get_any (l : List UInt8) (w : World) (hl : l.length ≤ 1000000000) : Calls Tryd.prog 55 #[.string (bs l)] w fun e w' => e = .returned (.tuple #[.int .i64 (getB l).1, .string (bs (getB l).2.1), .int .i64 (getB l).2.2]) ∧ Below w.heap.size w w' := by
  have hsz := bs_size l
  obtain ⟨R, HR⟩ : ∃ R, Hid (R = getB l) := ⟨_, Lib.hid rfl⟩
  rw [← HR.out]
  go_enter Tryd.func55, Tryd.ntmps55
  go_wp2_with fail
  go_loopw [5, 6, 7, 8] (fun vz _ _ i wr => ∃ k z : Nat, k ≤ 10 ∧ i = .int .i64 k ∧ vz = .int .u64 z ∧ z < 2 ^ (7 * k) ∧ Hid (R = getFrom (l.drop k) k z) ∧ Hid (Below w.heap.size w wr)) (fun _ _ _ i _ => 10 - (intOf i).toNat)
  case atStart => exact ⟨0, 0, by omega, rfl, rfl, by simp, by show R = _; rw [HR.out]; rfl, Below.refl _ _⟩
  case round =>
    obtain ⟨k, z, hk, rfl, rfl, hz, HG, HB⟩ := hrel
    by_cases hk10 : k < 10
    · have hd10 : decide ((k : Int) < 10) = true := decide_eq_true (by omega)
      by_cases hkl : l.length ≤ k
      · have hd1 : decide ((l.length : Int) ≤ (k : Int)) = true := decide_eq_true (by omega)
        have HE : Hid (R = (0, [], 4)) := Lib.hid (by rw [HG.out, getFrom_short hkl hk10])
        go_wp2_with fail
        refine bodyPost_ret (v := .tuple #[.int .i64 0, .string (bs []), .int .i64 4]) (by simp [results, Tryd.results55, go_sem]) rfl ?_
        exact ⟨by rw [HE.out], HB.out⟩
      · have hkl' : k < l.length := by omega
        have hd1 : decide ((l.length : Int) ≤ (k : Int)) = false := decide_eq_false (by omega)
        have hkb : k < (bs l).size := by rw [bs_size]; exact hkl'
        have HS := Lib.hid (getFrom_step hkl' hk10 z)
        have hc := (l[k]).toNat_lt
        have hlow := u8_low l[k]
        obtain ⟨c, hce⟩ : ∃ c, (bs l)[k]'hkb = c := ⟨_, rfl⟩
        have hce' : l[k] = c := hce
        rw [hce'] at HS hc hlow
        clear hce'
        by_cases h9 : k = 9 ∧ 1 < c.toNat
        · obtain ⟨rfl, hc1'⟩ := h9
          have hc1 : decide ((1 : Int) < (c.toNat : Int)) = true := decide_eq_true (by omega)
          have HE : Hid (R = (0, [], 3)) := Lib.hid (by rw [HG.out, HS.out, if_pos ⟨rfl, hc1'⟩])
          go_wp2_with fail
          refine bodyPost_ret (v := .tuple #[.int .i64 0, .string (bs []), .int .i64 3]) (by simp [results, Tryd.results55, go_sem]) rfl ?_
          exact ⟨by rw [HE.out], HB.out⟩
        have HS2 : Hid (R = if c.toNat < 128 then (if c.toNat = 0 ∧ 0 < k then (0, [], 3) else (unzig (z + c.toNat * 2 ^ (7 * k)), l.drop (k + 1), 0)) else getFrom (l.drop (k + 1)) (k + 1) (z + c.toNat % 128 * 2 ^ (7 * k))) := Lib.hid (by rw [HG.out, HS.out, if_neg h9])
        clear HG HS
        have HDR : Hid ((bs l).extract (k + 1) l.length = bs (l.drop (k + 1))) := Lib.hid (by rw [ByteArray.extract_mk, List.take_of_length_le (by rw [List.length_drop]; omega)])
        have hw1 : IntKind.i64.wrap ((k : Int) + 1) = (k : Int) + 1 := IntWalk.i64_in _ (by omega)
        by_cases hk9 : k = 9
        · subst hk9
          have hc1 : decide ((1 : Int) < (c.toNat : Int)) = false := decide_eq_false (by omega)
          have hd128 : decide ((c.toNat : Int) < 128) = true := decide_eq_true (by omega)
          have hcm : c.toNat % 128 = c.toNat := by omega
          have h128 : c.toNat < 128 := by omega
          by_cases h0 : c.toNat = 0
          · have hb0 : ((c.toNat : Int) == 0) = true := by simpa using (show (c.toNat : Int) = 0 by omega)
            have HE : Hid (R = (0, [], 3)) := Lib.hid (by rw [HS2.out, if_pos h128, if_pos ⟨h0, by omega⟩])
            go_wp2_with fail
            refine bodyPost_ret (v := .tuple #[.int .i64 0, .string (bs []), .int .i64 3]) (by simp [results, Tryd.results55, go_sem]) rfl ?_
            exact ⟨by rw [HE.out], HB.out⟩
          have hc1n : c.toNat = 1 := by omega
          have hb0 : ((c.toNat : Int) == 0) = false := by simpa using (show (c.toNat : Int) ≠ 0 by omega)
          have hor := or_step (z := z) (k := 9) (m := c.toNat) hz (by omega) (by rw [hc1n]; decide)
          rw [hcm] at hlow
          have HE : Hid (R = (unzig (z + c.toNat * 2 ^ (7 * 9)), l.drop (9 + 1), 0)) := Lib.hid (by rw [HS2.out, if_pos h128, if_neg (by omega)])
          have hyb : z + c.toNat * 2 ^ (7 * 9) < 18446744073709551616 := by
            have e : (2 : Nat) ^ (7 * 9) = 9223372036854775808 := by decide
            rw [e] at hz ⊢
            omega
          obtain ⟨Y, hY⟩ : ∃ Y, Y = z + c.toNat * 2 ^ (7 * 9) := ⟨_, rfl⟩
          rw [← hY] at hor HE hyb
          have e9 : (2 : Int) ^ (7 * 9) = 9223372036854775808 := by decide
          rw [e9] at hor
          have hwc : IntKind.u64.wrap ((c.toNat : Int) * 9223372036854775808) = (c.toNat : Int) * 9223372036854775808 := by rw [IntKind.wrap_u64]; omega
          have hor2 := hor
          rw [hwc] at hor2
          clear hc1n hwc
          by_cases hev : Y % 2 = 0
          · have hand : bits .and .u64 (Y : Int) 1 = 0 := by rw [Lib.u64_and1 _ (by omega) (by omega)]; omega
            have hxr := i64_xor0 (Y / 2) (by omega)
            have HU := Lib.hid (unzig_even hev)
            have hwh := wrap_half hyb
            clear HS2 hz hY hev
            go_wp2_with fail
            go_quiet (fail)
            go_wp2_with fail
            refine bodyPost_ret (v := .tuple #[.int .i64 (unzig Y), .string (bs (l.drop (9 + 1))), .int .i64 0]) (by rw [HU.out]; simp [results, Tryd.results55, go_sem]; exact ⟨by simpa using hxr, HDR.out⟩) rfl ?_
            exact ⟨by rw [HE.out], below_drewN HB.out _⟩
          · have hand : bits .and .u64 (Y : Int) 1 = 1 := by rw [Lib.u64_and1 _ (by omega) (by omega)]; omega
            have hxr := (xor_comm64 ((Y / 2 : Nat) : Int) (-1)).trans (Lib.i64_not (Y / 2) (by omega))
            have HU := Lib.hid (unzig_odd hev)
            have hwh := wrap_half hyb
            clear HS2 hz hY hev
            go_wp2_with fail
            go_quiet (fail)
            go_wp2_with fail
            refine bodyPost_ret (v := .tuple #[.int .i64 (unzig Y), .string (bs (l.drop (9 + 1))), .int .i64 0]) (by rw [HU.out]; simp [results, Tryd.results55, go_sem]; exact ⟨by simpa using hxr, HDR.out⟩) rfl ?_
            exact ⟨by rw [HE.out], below_drewN HB.out _⟩
        have hb9 : ((k : Int) == 9) = false := by simpa using (show (k : Int) ≠ 9 by omega)
        have hw7 : IntKind.i64.wrap (7 * (k : Int)) = 7 * (k : Int) := IntWalk.i64_in _ (by omega)
        by_cases h128 : c.toNat < 128
        case neg =>
          have hd128 : decide ((c.toNat : Int) < 128) = false := decide_eq_false (by omega)
          have hor := or_step (z := z) (k := k) (m := c.toNat % 128) hz (by omega) (by have := pow_top (k := k) (by omega); have := Nat.mul_le_mul (show c.toNat % 128 ≤ 127 by omega) (Nat.le_refl (2 ^ (7 * k))); omega)
          go_wp2_with fail
          go_roundw
          case rel => exact ⟨k + 1, z + c.toNat % 128 * 2 ^ (7 * k), by omega, by go_num, by rw [← hor]; simp, pow_up hz, by show R = _; rw [HS2.out, if_neg h128], HB⟩
          case measure => simp [intOf]; omega
        have hd128 : decide ((c.toNat : Int) < 128) = true := decide_eq_true (by omega)
        have hcm : c.toNat % 128 = c.toNat := by omega
        by_cases h0 : c.toNat = 0 ∧ 0 < k
        · have hb0 : ((c.toNat : Int) == 0) = true := by simpa using (show (c.toNat : Int) = 0 by omega)
          have hk0 : decide ((0 : Int) < (k : Int)) = true := decide_eq_true (by omega)
          have HE : Hid (R = (0, [], 3)) := Lib.hid (by rw [HS2.out, if_pos h128, if_pos h0])
          go_wp2_with fail
          refine bodyPost_ret (v := .tuple #[.int .i64 0, .string (bs []), .int .i64 3]) (by simp [results, Tryd.results55, go_sem]) rfl ?_
          exact ⟨by rw [HE.out], HB.out⟩
        have hyb : z + c.toNat * 2 ^ (7 * k) < 18446744073709551616 := by
          have h1 := pow_up (m := c.toNat) hz
          rw [hcm] at h1
          have h2 : (2 : Nat) ^ (7 * (k + 1)) ≤ 2 ^ 63 := Nat.pow_le_pow_right (by decide) (by omega)
          have : (2 : Nat) ^ 63 = 9223372036854775808 := by decide
          omega
        have hor := or_step (z := z) (k := k) (m := c.toNat) hz (by omega) (by omega)
        rw [hcm] at hlow
        have HE : Hid (R = (unzig (z + c.toNat * 2 ^ (7 * k)), l.drop (k + 1), 0)) := Lib.hid (by rw [HS2.out, if_pos h128, if_neg h0])
        by_cases hc0 : c.toNat = 0
        · obtain rfl : k = 0 := by omega
          have hz0 : z = 0 := by simpa using hz
          subst hz0
          have hb0 : ((c.toNat : Int) == 0) = true := by simpa using (show (c.toNat : Int) = 0 by omega)
          have hcI : (c.toNat : Int) = 0 := by omega
          have hor3 : bits .or .u64 0 0 = 0 := by decide
          have hand : bits .and .u64 0 1 = 0 := by decide
          have hx0 : bits .xor .i64 0 0 = 0 := by decide
          rw [hc0] at HE
          clear hor HS2 hlow
          have hlow0 : bits .andNot .u8 0 128 = 0 := by decide
          have hne : l ≠ [] := by rintro rfl; simp at hkl'
          go_wp2_with fail
          go_quiet (fail)
          go_wp2_with fail
          refine bodyPost_ret (v := .tuple #[.int .i64 0, .string (bs (l.drop 1)), .int .i64 0]) (by simp [results, Tryd.results55, go_sem]; simpa using HDR.out) rfl ?_
          exact ⟨by rw [HE.out]; rfl, below_drewN HB.out _⟩
        have hb0 : ((c.toNat : Int) == 0) = false := by simpa using (show (c.toNat : Int) ≠ 0 by omega)
        generalize hY : z + c.toNat * 2 ^ (7 * k) = Y at *
        by_cases hev : Y % 2 = 0
        · have hand : bits .and .u64 (Y : Int) 1 = 0 := by rw [Lib.u64_and1 _ (by omega) (by omega)]; omega
          have hxr := i64_xor0 (Y / 2) (by omega)
          have HU := Lib.hid (unzig_even hev)
          have hwh := wrap_half hyb
          clear HS2 hz hY hev
          go_wp2_with fail
          go_quiet (fail)
          go_wp2_with fail
          refine bodyPost_ret (v := .tuple #[.int .i64 (unzig Y), .string (bs (l.drop (k + 1))), .int .i64 0]) (by rw [HU.out]; simp [results, Tryd.results55, go_sem]; exact ⟨by simpa using hxr, HDR.out⟩) rfl ?_
          exact ⟨by rw [HE.out], below_drewN HB.out _⟩
        · have hand : bits .and .u64 (Y : Int) 1 = 1 := by rw [Lib.u64_and1 _ (by omega) (by omega)]; omega
          have hxr := (xor_comm64 ((Y / 2 : Nat) : Int) (-1)).trans (Lib.i64_not (Y / 2) (by omega))
          have HU := Lib.hid (unzig_odd hev)
          have hwh := wrap_half hyb
          clear HS2 hz hY hev
          go_wp2_with fail
          go_quiet (fail)
          go_wp2_with fail
          refine bodyPost_ret (v := .tuple #[.int .i64 (unzig Y), .string (bs (l.drop (k + 1))), .int .i64 0]) (by rw [HU.out]; simp [results, Tryd.results55, go_sem]; exact ⟨by simpa using hxr, HDR.out⟩) rfl ?_
          exact ⟨by rw [HE.out], below_drewN HB.out _⟩
    · obtain rfl : k = 10 := by omega
      have HE : Hid (R = (0, [], 3)) := Lib.hid (by
        rw [HG.out]
        cases l.drop 10 with
        | nil => unfold getFrom; rw [if_pos (by omega)]
        | cons c t => unfold getFrom; rw [if_pos (by omega)])
      go_wp2_with fail
      refine bodyPost_ret (v := .tuple #[.int .i64 0, .string (bs []), .int .i64 3]) (by simp [results, Tryd.results55, go_sem]) rfl ?_
      exact ⟨by rw [HE.out], HB.out⟩
end Go.Proofs.YtmplokdbbhlomaaDoor
