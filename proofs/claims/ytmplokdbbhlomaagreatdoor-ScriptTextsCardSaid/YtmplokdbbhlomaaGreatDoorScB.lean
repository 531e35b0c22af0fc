/-
  Several texts in one: Sc1, Sc2, Sc3, Sc4, Sc5.
-/
import Derived.Test.YtmplokdbbhlomaaGreatDoorSBld
import Derived.Test.YtmplokdbbhlomaaGreatDoorScA
import Derived.Test.YtmplokdbbhlomaaGreatDoorMem
import Derived.Test.YtmplokdbbhlomaaGreatDoorFrame
import Derived.Lib.Zigzag
import Derived.Lib.VarintMem
import Derived.Lib.VarintBits
import Derived.Laws.BytesString
import Derived.Laws.IdiomStrings
import Derived.Laws.Strings3
import Derived.Laws.DeepStrings4
import Derived.Laws.BitsAllLaws
import Derived.Laws.ShiftsVarLaws
import Derived.BigQuiet
import Derived.Deep.QuietTactic
/-
  What num.Put comes to, over this seat's translation: a contract for callers.
-/
namespace Go.Proofs.YtmplokdbbhlomaaGreatDoor
open Go.RowKit

/-- A string of bytes. -/
abbrev bs (l : List UInt8) : ByteArray := ⟨l.toArray⟩
theorem zig_bits {n : Int} (h : I64 n) : bits .xor .u64 (IntKind.u64.wrap (IntKind.u64.wrap n * 2)) (IntKind.u64.wrap (n / 9223372036854775808)) = ((Lib.zigzag n : Nat) : Int) := by
  unfold I64 at h
  by_cases h0 : 0 ≤ n
  · have e1 : IntKind.u64.wrap (IntKind.u64.wrap n * 2) = (((2 * n).toNat : Nat) : Int) := by
      rw [IntKind.wrap_u64, IntKind.wrap_u64]
      omega
    have e2 : IntKind.u64.wrap (n / 9223372036854775808) = ((0 : Nat) : Int) := by
      rw [IntKind.wrap_u64]
      omega
    rw [e1, e2, bits_xor_u64_nat _ _ (by omega) (by decide), Nat.xor_zero]
    unfold Lib.zigzag
    rw [if_pos h0]
  · have e1 : IntKind.u64.wrap (IntKind.u64.wrap n * 2) = (((2 * n + 18446744073709551616).toNat : Nat) : Int) := by
      rw [IntKind.wrap_u64, IntKind.wrap_u64]
      omega
    have e2 : IntKind.u64.wrap (n / 9223372036854775808) = ((2 ^ 64 - 1 : Nat) : Int) := by
      rw [IntKind.wrap_u64]
      omega
    rw [e1, e2, bits_xor_u64_nat _ _ (by omega) (by decide), Nat.xor_comm, Lib.xor_ones64 _ (by omega)]
    unfold Lib.zigzag
    rw [if_neg h0]
    omega
/-- 'string(b)' of one's own bytes. -/
theorem conv_own {w : World} {B : Nat} {g cap : Nat} {l : List UInt8} (h : w.ownsRow B TU 1 (.slice (some ⟨g, 0, none⟩) l.length cap) l.length (Lib.byteCells l)) :
    (convert 71 9 (.slice (some ⟨g, 0, none⟩) l.length cap)).run Tryz.prog w = .ok (.string (bs l)) w :=
  run_convert_bytes_back w _ _ TU ⟨g, 0, none⟩ cap l Tryz.underlying71 Tryz.underlying5 Tryz.underlying9 fun j hj => h.cells rfl j _ (by simp [Lib.byteCells, hj])
set_option maxRecDepth 100000 in
set_option maxHeartbeats 1600000 in
theorem put_any (n : Int) (w : World) (h : I64 n) : Calls Tryz.prog 28 #[.int .i64 n] w fun e w' => e = .returned (.string (bs (putN n))) ∧ Below w.heap.size w w' := by
  obtain ⟨i0, hi, hz0, hz1, hz2⟩ := info_parts byte_info
  have hzb := zig_bits h
  have hzl := zig_lt h
  have HP : Hid (putN n = Lib.uvarint (Lib.zigzag n)) := Lib.hid rfl
  go_enter Tryz.func28, Tryz.ntmps28
  go_wp2_with fail
  clear hzb
  generalize Lib.zigzag n = x at *
  have hlen := Lib.uvarint_length64 hzl
  go_loopw [3, 4] (fun vx vb wr => ∃ (y : Nat) (pre : List UInt8), vx = .int .u64 y ∧ y ≤ x ∧ Lib.uvarint x = pre ++ Lib.uvarint y ∧ wr.ownsRow w.heap.size TU 1 vb pre.length (Lib.byteCells pre) ∧ Below w.heap.size w wr)
    (fun vx _ _ => (intOf vx).toNat)
  case atStart => exact ⟨x, [], rfl, Nat.le_refl _, rfl, World.ownsRow_nil _ _ _ _, Below.refl _ _⟩
  case round =>
    obtain ⟨y, pre, rfl, hy, hsplit, hown1, hnx⟩ := hrel
    have hpl : pre.length + (Lib.uvarint y).length ≤ 10 := by
      have h2 := congrArg List.length hsplit
      rw [List.length_append] at h2
      omega
    have hyp := Lib.uvarint_pos y
    have hsz := hnx.size
    by_cases h128 : 128 ≤ y
    · have hor : bits .or .u8 ((y : Int) % 256) 128 = ((y % 128 + 128 : Nat) : Int) := by
        rw [Lib.u8_or128_any _ (by omega) (by omega)]
        omega
      have hge : decide ((128 : Int) ≤ (y : Int)) = true := decide_eq_true (by omega)
      go_wp2_with (at_builtin; refine wpList_append_own _ rfl _ _ 71 rfl w.heap.size TU i0 (.int .u8 0) 1 1 Tryz.underlying71 hi hz0 hz1 hz2 rfl (by decide) _ _ _ rfl (hown1.alloc _) ⟨wr.heap.size, 0, none⟩ 1 1 [Value.int .u8 ((y % 128 + 128 : Nat) : Int)] rfl rfl ?c1 ?c2 ?c3 ?c4 ?c5 ?_)
      case c1 =>
        intro j u hj
        match j, hj with
        | 0, hj => simp at hj; subst hj; simp [Addr.add]
      case c2 => intro u hu; simp at hu; subst hu; rfl
      case c3 => unfold maxLen; omega
      case c4 => omega
      case c5 => simp; omega
      intro v' w1 hown' hgrow _
      have hnx1 : Below w.heap.size w w1 := (hnx.alloc hsz _).grown hgrow (by simp; omega) (fun k hk => (hown1.lt k hk).1)
      go_wp2_with fail
      go_roundw
      case rel =>
        refine ⟨y / 128, pre ++ [(y % 128 + 128).toUInt8], by go_num, by omega, by rw [hsplit, Lib.uvarint_big h128]; simp, ?_, hnx1⟩
        have ec : ((y % 128 + 128 : Nat) : Int) = (y : Int) % 128 + 128 := by omega
        rw [Lib.byteCells_snoc pre (by omega), List.length_append, List.length_singleton]
        exact hown'
      case measure => simp [intOf]; omega
    · have hsm : Lib.uvarint y = [y.toUInt8] := Lib.uvarint_small (by omega)
      have hge : decide ((128 : Int) ≤ (y : Int)) = false := decide_eq_false (by omega)
      have hym : (y : Int) % 256 = (y : Int) := by omega
      go_wp2_with (at_builtin; refine wpList_append_own _ rfl _ _ 71 rfl w.heap.size TU i0 (.int .u8 0) 1 1 Tryz.underlying71 hi hz0 hz1 hz2 rfl (by decide) _ _ _ rfl (hown1.alloc _) ⟨wr.heap.size, 0, none⟩ 1 1 [Value.int .u8 (y : Int)] rfl rfl ?c1 ?c2 ?c3 ?c4 ?c5 ?_)
      case c1 =>
        intro j u hj
        match j, hj with
        | 0, hj => simp at hj; subst hj; simp [Addr.add]
      case c2 => intro u hu; simp at hu; subst hu; rfl
      case c3 => unfold maxLen; omega
      case c4 => omega
      case c5 => simp; omega
      intro v' w1 hown' hgrow _
      have hnx1 : Below w.heap.size w w1 := (hnx.alloc hsz _).grown hgrow (by simp; omega) (fun k hk => (hown1.lt k hk).1)
      obtain ⟨g, cap, rfl⟩ : ∃ g cap, v' = .slice (some ⟨g, 0, none⟩) (pre.length + 1) cap := by
        rcases hown'.2 with ⟨_, h0⟩ | ⟨g, cap, cur, hv, _⟩
        · omega
        · exact ⟨g, cap, hv⟩
      have hall : w1.ownsRow w.heap.size TU 1 (.slice (some ⟨g, 0, none⟩) (pre ++ [y.toUInt8]).length cap) (pre ++ [y.toUInt8]).length (Lib.byteCells (pre ++ [y.toUInt8])) := by
        rw [Lib.byteCells_snoc pre (by omega), List.length_append, List.length_singleton]
        exact hown'
      have hcv := conv_own hall
      rw [List.length_append, List.length_singleton] at hcv
      go_wp2_with fail
      go_ret
      exact ⟨by rw [HP.out, hsplit, hsm]; rfl, hnx1⟩
end Go.Proofs.YtmplokdbbhlomaaGreatDoor

/-
  What num.Get comes to, over this seat's translation: a contract for callers.
-/
namespace Go.Proofs.YtmplokdbbhlomaaGreatDoor
open Go.RowKit

theorem bs_size (l : List UInt8) : (bs l).size = l.length := by
  unfold ByteArray.size
  simp
theorem index_bs (l : List UInt8) {k : Nat} (hk : k < l.length) (w : World) : (Instr.index 9 (.string (bs l)) (.int .i64 (k : Int))).run Tryz.prog w = .ok (.int .u8 (l[k].toNat : Int)) w := by
  rw [run_index_string w _ _ _ _ Tryz.underlying9, dif_pos ⟨by omega, by rw [bs_size]; omega⟩]
  congr 3
theorem slice_bs (l : List UInt8) {k : Nat} (hk : k ≤ l.length) (w : World) : (Instr.slice 9 (.string (bs l)) (some (.int .i64 (k : Int))) none none).run Tryz.prog w = .ok (.string (bs (l.drop k))) w := by
  rw [run_slice_string_from_if w _ _ _ _ Tryz.underlying9, if_pos ⟨by omega, by rw [bs_size]; omega⟩, bs_size]
  congr 2
  rw [ByteArray.extract_mk, List.take_of_length_le (by rw [List.length_drop]; omega)]
  rfl
set_option maxRecDepth 100000 in
theorem and_not128 : ∀ a : Fin 256, (a.val &&& (255 - 128)) = a.val % 128 := by decide
theorem u8_low (c : UInt8) : bits .andNot .u8 (c.toNat : Int) 128 = ((c.toNat % 128 : Nat) : Int) := by
  have hc := c.toNat_lt
  have h := u8_andNot_nat c.toNat 128 (by omega) (by omega)
  have e : ((128 : Nat) : Int) = 128 := rfl
  rw [e] at h
  rw [h, and_not128 ⟨c.toNat, hc⟩]
theorem getFrom_short {l : List UInt8} {k z : Nat} (h : l.length ≤ k) (hk : k < 10) : getFrom (l.drop k) k z = (0, [], 4) := by
  rw [List.drop_eq_nil_of_le h]
  unfold getFrom
  rw [if_neg (by omega)]
theorem getFrom_step {l : List UInt8} {k : Nat} (h : k < l.length) (hk : k < 10) (z : Nat) : getFrom (l.drop k) k z = if k = 9 ∧ 1 < l[k].toNat then (0, [], 3) else
    if l[k].toNat < 128 then (if l[k].toNat = 0 ∧ 0 < k then (0, [], 3) else (unzig (z + l[k].toNat * 2 ^ (7 * k)), l.drop (k + 1), 0)) else getFrom (l.drop (k + 1)) (k + 1) (z + l[k].toNat % 128 * 2 ^ (7 * k)) := by
  rw [List.drop_eq_getElem_cons h]
  conv => lhs; unfold getFrom
  rw [if_neg (by omega)]
theorem pow_top {k : Nat} (h : k ≤ 8) : 127 * 2 ^ (7 * k) < 18446744073709551616 := by
  have hp : (2 : Nat) ^ (7 * k) ≤ 2 ^ 56 := Nat.pow_le_pow_right (by decide) (by omega)
  have : (2 : Nat) ^ 56 = 72057594037927936 := by decide
  omega
theorem pow_up {z k m : Nat} (hz : z < 2 ^ (7 * k)) : z + m % 128 * 2 ^ (7 * k) < 2 ^ (7 * (k + 1)) := by
  rw [pow_step]
  have := Nat.mul_le_mul (show m % 128 ≤ 127 by omega) (Nat.le_refl (2 ^ (7 * k)))
  omega
theorem or_step {z k m : Nat} (hz : z < 2 ^ (7 * k)) (hk : k ≤ 9) (hm : m * 2 ^ (7 * k) < 18446744073709551616) : bits .or .u64 (z : Int) (IntKind.u64.wrap ((m : Int) * 2 ^ (7 * k))) = ((z + m * 2 ^ (7 * k) : Nat) : Int) := by
  have e : ((m : Int) * 2 ^ (7 * k)) = ((m * 2 ^ (7 * k) : Nat) : Int) := by simp
  have hp : (2 : Nat) ^ (7 * k) ≤ 2 ^ 63 := Nat.pow_le_pow_right (by decide) (by omega)
  have hw : IntKind.u64.wrap ((m * 2 ^ (7 * k) : Nat) : Int) = ((m * 2 ^ (7 * k) : Nat) : Int) := by
    rw [IntKind.wrap_u64]
    omega
  have h64 : (2 : Int) ^ 64 = 18446744073709551616 := by decide
  have h64n : (2 : Nat) ^ 63 = 9223372036854775808 := by decide
  rw [e, hw, bits_join_low .u64 64 (by decide) wraps_u64 (7 * k) (z : Int) _ (by omega) (by exact_mod_cast hz) (by rw [h64]; omega) (by omega) (by rw [← e]; exact Int.mul_emod_left _ _) (by rw [h64]; omega)]
  omega

theorem xor_comm64 (a b : Int) : bits .xor .i64 a b = bits .xor .i64 b a := by
  show IntKind.i64.wrap ((BitVec.ofInt 64 a ^^^ BitVec.ofInt 64 b).toNat : Int) = IntKind.i64.wrap ((BitVec.ofInt 64 b ^^^ BitVec.ofInt 64 a).toNat : Int)
  rw [BitVec.xor_comm]
theorem i64_xor0 (x : Nat) (hx : x < 9223372036854775808) : bits .xor .i64 (x : Int) 0 = (x : Int) := by
  show IntKind.i64.wrap ((BitVec.ofInt 64 (x : Int) ^^^ BitVec.ofInt 64 0).toNat : Int) = _
  have h1 : BitVec.ofInt 64 0 = 0#64 := by decide
  have h2 : (BitVec.ofInt 64 (x : Int)).toNat = x := by
    rw [BitVec.ofInt_natCast, BitVec.toNat_ofNat]; exact Nat.mod_eq_of_lt (by omega)
  rw [h1, BitVec.xor_zero, h2, IntKind.wrap_i64]
  omega
theorem unzig_even {y : Nat} (h : y % 2 = 0) : unzig y = ((y / 2 : Nat) : Int) := by unfold unzig; rw [if_pos h]
theorem unzig_odd {y : Nat} (h : ¬ y % 2 = 0) : unzig y = -((y / 2 : Nat) : Int) - 1 := by unfold unzig; rw [if_neg h]
theorem wrap_half {y : Nat} (h : y < 18446744073709551616) : IntKind.i64.wrap ((y : Int) / 2) = ((y / 2 : Nat) : Int) := by
  rw [IntKind.wrap_i64]
  omega
set_option maxRecDepth 100000 in
set_option maxHeartbeats 3200000 in
theorem get_any (l : List UInt8) (w : World) (hl : l.length ≤ 1000000000) : Calls Tryz.prog 93 #[.string (bs l)] w fun e w' => e = .returned (.tuple #[.int .i64 (getB l).1, .string (bs (getB l).2.1), .int .i64 (getB l).2.2]) ∧ Below w.heap.size w w' := by
  have hsz := bs_size l
  obtain ⟨R, HR⟩ : ∃ R, Hid (R = getB l) := ⟨_, Lib.hid rfl⟩
  rw [← HR.out]
  go_enter Tryz.func93, Tryz.ntmps93
  go_wp2_with fail
  go_loopw [5, 6, 7, 8] (fun vz _ _ i wr => ∃ k z : Nat, k ≤ 10 ∧ i = .int .i64 k ∧ vz = .int .u64 z ∧ z < 2 ^ (7 * k) ∧ Hid (R = getFrom (l.drop k) k z) ∧ Hid (Below w.heap.size w wr)) (fun _ _ _ i _ => 10 - (intOf i).toNat)
  case atStart => exact ⟨0, 0, by omega, rfl, rfl, by simp, by show R = _; rw [HR.out]; rfl, Below.refl _ _⟩
  case round =>
    obtain ⟨k, z, hk, rfl, rfl, hz, HG, HB⟩ := hrel
    by_cases hk10 : k < 10
    · have hd10 : decide ((k : Int) < 10) = true := decide_eq_true (by omega)
      by_cases hkl : l.length ≤ k
      · have hd1 : decide ((l.length : Int) ≤ (k : Int)) = true := decide_eq_true (by omega)
        have HE : Hid (R = (0, [], 4)) := Lib.hid (by rw [HG.out, getFrom_short hkl hk10])
        go_wp2_with fail
        refine bodyPost_ret (v := .tuple #[.int .i64 0, .string (bs []), .int .i64 4]) (by simp [results, Tryz.results93, go_sem]) rfl ?_
        exact ⟨by rw [HE.out], HB.out⟩
      · have hkl' : k < l.length := by omega
        have hd1 : decide ((l.length : Int) ≤ (k : Int)) = false := decide_eq_false (by omega)
        have hkb : k < (bs l).size := by rw [bs_size]; exact hkl'
        have HS := Lib.hid (getFrom_step hkl' hk10 z)
        have hc := (l[k]).toNat_lt
        have hlow := u8_low l[k]
        obtain ⟨c, hce⟩ : ∃ c, (bs l)[k]'hkb = c := ⟨_, rfl⟩
        have hce' : l[k] = c := hce
        rw [hce'] at HS hc hlow
        clear hce'
        by_cases h9 : k = 9 ∧ 1 < c.toNat
        · obtain ⟨rfl, hc1'⟩ := h9
          have hc1 : decide ((1 : Int) < (c.toNat : Int)) = true := decide_eq_true (by omega)
          have HE : Hid (R = (0, [], 3)) := Lib.hid (by rw [HG.out, HS.out, if_pos ⟨rfl, hc1'⟩])
          go_wp2_with fail
          refine bodyPost_ret (v := .tuple #[.int .i64 0, .string (bs []), .int .i64 3]) (by simp [results, Tryz.results93, go_sem]) rfl ?_
          exact ⟨by rw [HE.out], HB.out⟩
        have HS2 : Hid (R = if c.toNat < 128 then (if c.toNat = 0 ∧ 0 < k then (0, [], 3) else (unzig (z + c.toNat * 2 ^ (7 * k)), l.drop (k + 1), 0)) else getFrom (l.drop (k + 1)) (k + 1) (z + c.toNat % 128 * 2 ^ (7 * k))) := Lib.hid (by rw [HG.out, HS.out, if_neg h9])
        clear HG HS
        have HDR : Hid ((bs l).extract (k + 1) l.length = bs (l.drop (k + 1))) := Lib.hid (by rw [ByteArray.extract_mk, List.take_of_length_le (by rw [List.length_drop]; omega)])
        have hw1 : IntKind.i64.wrap ((k : Int) + 1) = (k : Int) + 1 := IntWalk.i64_in _ (by omega)
        by_cases hk9 : k = 9
        · subst hk9
          have hc1 : decide ((1 : Int) < (c.toNat : Int)) = false := decide_eq_false (by omega)
          have hd128 : decide ((c.toNat : Int) < 128) = true := decide_eq_true (by omega)
          have hcm : c.toNat % 128 = c.toNat := by omega
          have h128 : c.toNat < 128 := by omega
          by_cases h0 : c.toNat = 0
          · have hb0 : ((c.toNat : Int) == 0) = true := by simpa using (show (c.toNat : Int) = 0 by omega)
            have HE : Hid (R = (0, [], 3)) := Lib.hid (by rw [HS2.out, if_pos h128, if_pos ⟨h0, by omega⟩])
            go_wp2_with fail
            refine bodyPost_ret (v := .tuple #[.int .i64 0, .string (bs []), .int .i64 3]) (by simp [results, Tryz.results93, go_sem]) rfl ?_
            exact ⟨by rw [HE.out], HB.out⟩
          have hc1n : c.toNat = 1 := by omega
          have hb0 : ((c.toNat : Int) == 0) = false := by simpa using (show (c.toNat : Int) ≠ 0 by omega)
          have hor := or_step (z := z) (k := 9) (m := c.toNat) hz (by omega) (by rw [hc1n]; decide)
          rw [hcm] at hlow
          have HE : Hid (R = (unzig (z + c.toNat * 2 ^ (7 * 9)), l.drop (9 + 1), 0)) := Lib.hid (by rw [HS2.out, if_pos h128, if_neg (by omega)])
          have hyb : z + c.toNat * 2 ^ (7 * 9) < 18446744073709551616 := by
            have e : (2 : Nat) ^ (7 * 9) = 9223372036854775808 := by decide
            rw [e] at hz ⊢
            omega
          obtain ⟨Y, hY⟩ : ∃ Y, Y = z + c.toNat * 2 ^ (7 * 9) := ⟨_, rfl⟩
          rw [← hY] at hor HE hyb
          have e9 : (2 : Int) ^ (7 * 9) = 9223372036854775808 := by decide
          rw [e9] at hor
          have hwc : IntKind.u64.wrap ((c.toNat : Int) * 9223372036854775808) = (c.toNat : Int) * 9223372036854775808 := by rw [IntKind.wrap_u64]; omega
          have hor2 := hor
          rw [hwc] at hor2
          clear hc1n hwc
          by_cases hev : Y % 2 = 0
          · have hand : bits .and .u64 (Y : Int) 1 = 0 := by rw [Lib.u64_and1 _ (by omega) (by omega)]; omega
            have hxr := i64_xor0 (Y / 2) (by omega)
            have HU := Lib.hid (unzig_even hev)
            have hwh := wrap_half hyb
            clear HS2 hz hY hev
            go_wp2_with fail
            go_quiet (fail)
            go_wp2_with fail
            refine bodyPost_ret (v := .tuple #[.int .i64 (unzig Y), .string (bs (l.drop (9 + 1))), .int .i64 0]) (by rw [HU.out]; simp [results, Tryz.results93, go_sem]; exact ⟨by simpa using hxr, HDR.out⟩) rfl ?_
            exact ⟨by rw [HE.out], below_drewN HB.out _⟩
          · have hand : bits .and .u64 (Y : Int) 1 = 1 := by rw [Lib.u64_and1 _ (by omega) (by omega)]; omega
            have hxr := (xor_comm64 ((Y / 2 : Nat) : Int) (-1)).trans (Lib.i64_not (Y / 2) (by omega))
            have HU := Lib.hid (unzig_odd hev)
            have hwh := wrap_half hyb
            clear HS2 hz hY hev
            go_wp2_with fail
            go_quiet (fail)
            go_wp2_with fail
            refine bodyPost_ret (v := .tuple #[.int .i64 (unzig Y), .string (bs (l.drop (9 + 1))), .int .i64 0]) (by rw [HU.out]; simp [results, Tryz.results93, go_sem]; exact ⟨by simpa using hxr, HDR.out⟩) rfl ?_
            exact ⟨by rw [HE.out], below_drewN HB.out _⟩
        have hb9 : ((k : Int) == 9) = false := by simpa using (show (k : Int) ≠ 9 by omega)
        have hw7 : IntKind.i64.wrap (7 * (k : Int)) = 7 * (k : Int) := IntWalk.i64_in _ (by omega)
        by_cases h128 : c.toNat < 128
        case neg =>
          have hd128 : decide ((c.toNat : Int) < 128) = false := decide_eq_false (by omega)
          have hor := or_step (z := z) (k := k) (m := c.toNat % 128) hz (by omega) (by have := pow_top (k := k) (by omega); have := Nat.mul_le_mul (show c.toNat % 128 ≤ 127 by omega) (Nat.le_refl (2 ^ (7 * k))); omega)
          go_wp2_with fail
          go_roundw
          case rel => exact ⟨k + 1, z + c.toNat % 128 * 2 ^ (7 * k), by omega, by go_num, by rw [← hor]; simp, pow_up hz, by show R = _; rw [HS2.out, if_neg h128], HB⟩
          case measure => simp [intOf]; omega
        have hd128 : decide ((c.toNat : Int) < 128) = true := decide_eq_true (by omega)
        have hcm : c.toNat % 128 = c.toNat := by omega
        by_cases h0 : c.toNat = 0 ∧ 0 < k
        · have hb0 : ((c.toNat : Int) == 0) = true := by simpa using (show (c.toNat : Int) = 0 by omega)
          have hk0 : decide ((0 : Int) < (k : Int)) = true := decide_eq_true (by omega)
          have HE : Hid (R = (0, [], 3)) := Lib.hid (by rw [HS2.out, if_pos h128, if_pos h0])
          go_wp2_with fail
          refine bodyPost_ret (v := .tuple #[.int .i64 0, .string (bs []), .int .i64 3]) (by simp [results, Tryz.results93, go_sem]) rfl ?_
          exact ⟨by rw [HE.out], HB.out⟩
        have hyb : z + c.toNat * 2 ^ (7 * k) < 18446744073709551616 := by
          have h1 := pow_up (m := c.toNat) hz
          rw [hcm] at h1
          have h2 : (2 : Nat) ^ (7 * (k + 1)) ≤ 2 ^ 63 := Nat.pow_le_pow_right (by decide) (by omega)
          have : (2 : Nat) ^ 63 = 9223372036854775808 := by decide
          omega
        have hor := or_step (z := z) (k := k) (m := c.toNat) hz (by omega) (by omega)
        rw [hcm] at hlow
        have HE : Hid (R = (unzig (z + c.toNat * 2 ^ (7 * k)), l.drop (k + 1), 0)) := Lib.hid (by rw [HS2.out, if_pos h128, if_neg h0])
        by_cases hc0 : c.toNat = 0
        · obtain rfl : k = 0 := by omega
          have hz0 : z = 0 := by simpa using hz
          subst hz0
          have hb0 : ((c.toNat : Int) == 0) = true := by simpa using (show (c.toNat : Int) = 0 by omega)
          have hcI : (c.toNat : Int) = 0 := by omega
          have hor3 : bits .or .u64 0 0 = 0 := by decide
          have hand : bits .and .u64 0 1 = 0 := by decide
          have hx0 : bits .xor .i64 0 0 = 0 := by decide
          rw [hc0] at HE
          clear hor HS2 hlow
          have hlow0 : bits .andNot .u8 0 128 = 0 := by decide
          have hne : l ≠ [] := by rintro rfl; simp at hkl'
          go_wp2_with fail
          go_quiet (fail)
          go_wp2_with fail
          refine bodyPost_ret (v := .tuple #[.int .i64 0, .string (bs (l.drop 1)), .int .i64 0]) (by simp [results, Tryz.results93, go_sem]; simpa using HDR.out) rfl ?_
          exact ⟨by rw [HE.out]; rfl, below_drewN HB.out _⟩
        have hb0 : ((c.toNat : Int) == 0) = false := by simpa using (show (c.toNat : Int) ≠ 0 by omega)
        generalize hY : z + c.toNat * 2 ^ (7 * k) = Y at *
        by_cases hev : Y % 2 = 0
        · have hand : bits .and .u64 (Y : Int) 1 = 0 := by rw [Lib.u64_and1 _ (by omega) (by omega)]; omega
          have hxr := i64_xor0 (Y / 2) (by omega)
          have HU := Lib.hid (unzig_even hev)
          have hwh := wrap_half hyb
          clear HS2 hz hY hev
          go_wp2_with fail
          go_quiet (fail)
          go_wp2_with fail
          refine bodyPost_ret (v := .tuple #[.int .i64 (unzig Y), .string (bs (l.drop (k + 1))), .int .i64 0]) (by rw [HU.out]; simp [results, Tryz.results93, go_sem]; exact ⟨by simpa using hxr, HDR.out⟩) rfl ?_
          exact ⟨by rw [HE.out], below_drewN HB.out _⟩
        · have hand : bits .and .u64 (Y : Int) 1 = 1 := by rw [Lib.u64_and1 _ (by omega) (by omega)]; omega
          have hxr := (xor_comm64 ((Y / 2 : Nat) : Int) (-1)).trans (Lib.i64_not (Y / 2) (by omega))
          have HU := Lib.hid (unzig_odd hev)
          have hwh := wrap_half hyb
          clear HS2 hz hY hev
          go_wp2_with fail
          go_quiet (fail)
          go_wp2_with fail
          refine bodyPost_ret (v := .tuple #[.int .i64 (unzig Y), .string (bs (l.drop (k + 1))), .int .i64 0]) (by rw [HU.out]; simp [results, Tryz.results93, go_sem]; exact ⟨by simpa using hxr, HDR.out⟩) rfl ?_
          exact ⟨by rw [HE.out], below_drewN HB.out _⟩
    · obtain rfl : k = 10 := by omega
      have HE : Hid (R = (0, [], 3)) := Lib.hid (by
        rw [HG.out]
        cases l.drop 10 with
        | nil => unfold getFrom; rw [if_pos (by omega)]
        | cons c t => unfold getFrom; rw [if_pos (by omega)])
      go_wp2_with fail
      refine bodyPost_ret (v := .tuple #[.int .i64 0, .string (bs []), .int .i64 3]) (by simp [results, Tryz.results93, go_sem]) rfl ?_
      exact ⟨by rw [HE.out], HB.out⟩
end Go.Proofs.YtmplokdbbhlomaaGreatDoor

/-
  What num.Reader's methods come to, over this seat's translation: contracts for callers. (Printed by gen_sc3.py.)
-/
namespace Go.Proofs.YtmplokdbbhlomaaGreatDoor
open Go.RowKit

/-- A reader in memory. -/
structure RdAt (w : World) (g : Nat) (r : Rd) : Prop where
  c0 : w.cell? ⟨g, 0, none⟩ = some (.string (bs r.s))
  c1 : w.cell? ⟨g, 1, none⟩ = some (.int .i64 r.e)
  fz : ∀ j, w.frozen? ⟨g, j, none⟩ = false
  len : r.s.length ≤ 1000000
theorem RdAt.lt {w : World} {g : Nat} {r : Rd} (h : RdAt w g r) : g < w.heap.size := World.block_lt_of_cell? w _ h.c0
theorem RdAt.kept {w w' : World} {g : Nat} {r : Rd} (h : RdAt w g r) {row : Option Nat} (hg : w.grownBy w' row) (hne : some g ≠ row) : RdAt w' g r := by
  have hb := hg.block g h.lt hne
  refine ⟨(World.cell?_of_block (a := ⟨g, 0, none⟩) hb).trans h.c0, (World.cell?_of_block (a := ⟨g, 1, none⟩) hb).trans h.c1, fun j => ?_, h.len⟩
  have : w'.frozen? ⟨g, j, none⟩ = w.frozen? ⟨g, j, none⟩ := by unfold World.frozen?; rw [hb]
  rw [this]
  exact h.fz j
theorem RdAt.below {w w' : World} {g : Nat} {r : Rd} (h : RdAt w g r) (hb : Below w.heap.size w w') : RdAt w' g r :=
  h.kept ⟨hb.os, hb.tape, hb.output, hb.size, fun k hk _ => hb.block k hk⟩ (row := none) (fun e => by cases e)
theorem grown_setS (W : World) (b i : Nat) (v : Value) : W.grownBy (W.setCell ⟨b, i, none⟩ v) (some b) := ⟨rfl, rfl, rfl, by simp, fun k _ hk => RowKit.Below.heap_setCell _ _ _ _ (fun e => hk (by rw [e]))⟩
theorem RdAt.setS {w : World} {g : Nat} {r : Rd} (h : RdAt w g r) {s : List UInt8} (hs : s.length ≤ 1000000) : RdAt (w.setCell ⟨g, 0, none⟩ (.string (bs s))) g ⟨s, r.e⟩ :=
  ⟨World.cell?_setCell_same' _ _ _ (by rw [h.c0]; rfl), (World.cell?_setCell_other _ _ _ _ (fun e => by injection e with _ e _; cases e)).trans h.c1, fun j => by rw [World.frozen?_setCell]; exact h.fz j, hs⟩
theorem RdAt.setE {w : World} {g : Nat} {r : Rd} (h : RdAt w g r) (e : Int) : RdAt (w.setCell ⟨g, 1, none⟩ (.int .i64 e)) g ⟨r.s, e⟩ :=
  ⟨(World.cell?_setCell_other _ _ _ _ (fun e => by injection e with _ e _; cases e)).trans h.c0, World.cell?_setCell_same' _ _ _ (by rw [h.c1]; rfl), fun j => by rw [World.frozen?_setCell]; exact h.fz j, h.len⟩
theorem grown_belowS {w w' W : World} {g : Nat} (h : w.grownBy w' (some g)) (hb : Below w'.heap.size w' W) : w.grownBy W (some g) :=
  ⟨hb.os.trans h.os, hb.tape.trans h.tape, hb.output.trans h.output, Nat.le_trans h.size hb.size, fun k hk hne => (hb.block k (Nat.lt_of_lt_of_le hk h.size)).trans (h.block k hk hne)⟩
theorem grown_toS {w W : World} (h : Below w.heap.size w W) (g : Nat) : w.grownBy W (some g) := ⟨h.os, h.tape, h.output, h.size, fun k hk _ => h.block k hk⟩
theorem grown_twoS {w w' W : World} {g : Nat} (h : w.grownBy w' (some g)) (h' : w'.grownBy W (some g)) : w.grownBy W (some g) :=
  ⟨h'.os.trans h.os, h'.tape.trans h.tape, h'.output.trans h.output, Nat.le_trans h.size h'.size, fun k hk hne => (h'.block k (Nat.lt_of_lt_of_le hk h.size) hne).trans (h.block k hk hne)⟩
theorem getFrom_len : ∀ (s : List UInt8) (i z : Nat), (getFrom s i z).2.1.length ≤ s.length
  | [], i, z => by
    unfold getFrom
    split <;> simp
  | c :: s, i, z => by
    unfold getFrom
    have ih := getFrom_len s (i + 1) (z + c.toNat % 128 * 2 ^ (7 * i))
    split
    · simp
    · split
      · simp
      · split
        · split <;> simp
        · rw [List.length_cons]
          omega
theorem getB_len (s : List UInt8) : (getB s).2.1.length ≤ s.length := getFrom_len s 0 0
theorem getFrom_err : ∀ (s : List UInt8) (i z : Nat), (getFrom s i z).2.2 ≠ 0 → (getFrom s i z).2.1 = []
  | [], i, z, h => by
    unfold getFrom
    split <;> rfl
  | c :: s, i, z, h => by
    have ih := getFrom_err s (i + 1) (z + c.toNat % 128 * 2 ^ (7 * i))
    unfold getFrom at h ⊢
    repeat' split
    all_goals first | rfl | skip
    · rename_i h1 h2 h3 h4
      rw [if_neg h1, if_neg h2, if_pos h3, if_neg h4] at h
      exact absurd rfl h
    · rename_i h1 h2 h3
      rw [if_neg h1, if_neg h2, if_neg h3] at h
      exact ih h
theorem getB_I64 (s : List UInt8) : I64 (getB s).1 := by
  by_cases h : (getB s).2.2 = 0
  · exact (get_got (s := s) (r := (getB s).2.1) (n := (getB s).1) (by rw [← h])).2
  · have : ∀ (s : List UInt8) (i z : Nat), (getFrom s i z).2.2 ≠ 0 → (getFrom s i z).1 = 0 := by
      intro s
      induction s with
      | nil => intro i z _; unfold getFrom; split <;> rfl
      | cons c s ih =>
        intro i z h
        have ih := ih (i + 1) (z + c.toNat % 128 * 2 ^ (7 * i))
        unfold getFrom at h ⊢
        repeat' split
        all_goals first | rfl | skip
        · rename_i h1 h2 h3 h4
          rw [if_neg h1, if_neg h2, if_pos h3, if_neg h4] at h
          exact absurd rfl h
        · rename_i h1 h2 h3
          rw [if_neg h1, if_neg h2, if_neg h3] at h
          exact ih h
    rw [show (getB s).1 = 0 from this s 0 0 h]
    unfold I64
    omega
set_option maxHeartbeats 800000 in
theorem new_any (l : List UInt8) (w : World) (hl : l.length ≤ 1000000) : Calls Tryz.prog 45 #[.string (bs l)] w fun e w' => e = .returned (.pointer (some ⟨w.heap.size, 0, none⟩)) ∧ RdAt w' w.heap.size ⟨l, 0⟩ ∧ Below w.heap.size w w' := by
  go_enter Tryz.func45, Tryz.ntmps45
  go_wp2_with fail
  go_ret
  exact ⟨rfl, ⟨cell_new _ _ _ _ rfl, cell_new _ _ _ _ rfl, fun j => by go_simp, hl⟩, (Below.refl _ _).alloc (Nat.le_refl _) _⟩
set_option maxHeartbeats 800000 in
theorem err_any (g : Nat) (r : Rd) (w : World) (h : RdAt w g r) : Calls Tryz.prog 88 #[.pointer (some ⟨g, 0, none⟩)] w fun e w' => e = .returned (.int .i64 r.e) ∧ w' = w := by
  have c1 := h.c1
  go_enter Tryz.func88, Tryz.ntmps88
  go_wp2_with fail
  go_ret
  exact ⟨rfl, rfl⟩
set_option maxHeartbeats 800000 in
theorem left_any (g : Nat) (r : Rd) (w : World) (h : RdAt w g r) : Calls Tryz.prog 48 #[.pointer (some ⟨g, 0, none⟩)] w fun e w' => e = .returned (.int .i64 (r.s.length : Int)) ∧ w' = w := by
  have c0 := h.c0
  have hsz := bs_size r.s
  go_enter Tryz.func48, Tryz.ntmps48
  go_wp2_with fail
  go_ret
  exact ⟨rfl, rfl⟩
set_option maxHeartbeats 1600000 in
theorem end_any (g : Nat) (r : Rd) (w : World) (h : RdAt w g r) : Calls Tryz.prog 57 #[.pointer (some ⟨g, 0, none⟩)] w fun e w' => e = .returned (.int .i64 (rEnd r)) ∧ w' = w := by
  have HE := Lib.hid (err_any g r w h)
  have HL := Lib.hid (left_any g r w h)
  obtain ⟨q, HQ⟩ : ∃ q, Hid (q = rEnd r) := ⟨_, Lib.hid rfl⟩
  rw [← HQ.out]
  unfold rEnd at HQ
  by_cases h0 : r.e = 0
  · have hb : (r.e != 0) = false := by simpa using h0
    by_cases hs : r.s = []
    · have hl : ((r.s.length : Int) == 0) = true := by rw [hs]; rfl
      have HQ2 : Hid (q = 0) := Lib.hid (by rw [HQ.out, if_neg (fun e => e.2 hs), h0])
      clear hs h
      generalize r.s.length = n at *
      go_enter Tryz.func57, Tryz.ntmps57
      go_wp2_with (first | (go_at_call 88; refine HE.out.mono ?_; rintro e w1 ⟨rfl, rfl⟩) | (go_at_call 48; refine HL.out.mono ?_; rintro e w1 ⟨rfl, rfl⟩))
      go_ret
      exact ⟨by rw [HQ2.out]; rfl, rfl⟩
    · have hl : ((r.s.length : Int) == 0) = false := by
        have : r.s.length ≠ 0 := fun e => hs (List.eq_nil_of_length_eq_zero e)
        simpa using (show (r.s.length : Int) ≠ 0 by omega)
      have HQ2 : Hid (q = 3) := Lib.hid (by rw [HQ.out, if_pos ⟨h0, hs⟩])
      clear hs h
      generalize r.s.length = n at *
      go_enter Tryz.func57, Tryz.ntmps57
      go_wp2_with (first | (go_at_call 88; refine HE.out.mono ?_; rintro e w1 ⟨rfl, rfl⟩) | (go_at_call 48; refine HL.out.mono ?_; rintro e w1 ⟨rfl, rfl⟩))
      go_ret
      exact ⟨by rw [HQ2.out]; rfl, rfl⟩
  · have hb : (r.e != 0) = true := by simpa using h0
    have HQ2 : Hid (q = r.e) := Lib.hid (by rw [HQ.out, if_neg (fun e => h0 e.1)])
    go_enter Tryz.func57, Tryz.ntmps57
    go_wp2_with (go_at_call 88; refine HE.out.mono ?_; rintro e w1 ⟨rfl, rfl⟩)
    go_ret
    exact ⟨by rw [HQ2.out]; rfl, rfl⟩

set_option maxHeartbeats 800000 in
theorem num1_any (n : Int) (w : World) : Calls Tryz.prog 71 #[.int .i64 n] w fun e w' => e = .returned (.bool true) ∧ w' = w := by
  go_enter Tryz.func71, Tryz.ntmps71
  go_wp2_with fail
  go_ret
  exact ⟨rfl, rfl⟩
set_option maxRecDepth 100000 in
set_option maxHeartbeats 3200000 in
theorem take_num (g : Nat) (r : Rd) (w : World) (h : RdAt w g r) : Calls Tryz.prog 70 #[.pointer (some ⟨g, 0, none⟩), .func (.func 71) #[] #[]] w fun e w' => e = .returned (.tuple #[.int .i64 (rTake (fun _ => true) r).1, .bool (rTake (fun _ => true) r).2.1]) ∧ RdAt w' g (rTake (fun _ => true) r).2.2 ∧ w.grownBy w' (some g) := by
  have HE := Lib.hid (err_any g r w h)
  have HR := Lib.hid h
  have c0 := h.c0
  have hf := h.fz
  have hlen := h.len
  have HGT := Lib.hid (get_any r.s w (by omega))
  have hgl := getB_len r.s
  obtain ⟨T, HT⟩ : ∃ T, Hid (T = rTake (fun _ => true) r) := ⟨_, Lib.hid rfl⟩
  rw [← HT.out]
  by_cases h0 : r.e = 0
  case neg =>
    have hb : (r.e != 0) = true := by simpa using h0
    have HT2 : Hid (T = (0, false, r)) := Lib.hid (by rw [HT.out, rTake_bad h0])
    clear h
    go_enter Tryz.func70, Tryz.ntmps70
    go_wp2_with (go_at_call 88; refine HE.out.mono ?_; rintro e w1 ⟨rfl, rfl⟩)
    go_ret2
    rw [HT2.out]
    exact ⟨rfl, HR.out, World.grownBy.refl _ _⟩
  have hb : (r.e != 0) = false := by simpa using h0
  have HG0 : Hid (T = if (getB r.s).2.2 = 0 then (if (fun _ => true) (getB r.s).1 then ((getB r.s).1, true, ⟨(getB r.s).2.1, 0⟩) else (0, false, ⟨r.s, 3⟩)) else (0, false, ⟨r.s, (getB r.s).2.2⟩)) := Lib.hid (by rw [HT.out]; unfold rTake; rw [if_pos h0])
  clear HT
  generalize getB r.s = G at *
  obtain ⟨n, rest, e'⟩ := G
  simp only at hgl HGT
  by_cases h1 : e' = 0
  case neg =>
    have he : (e' == 0) = false := by simpa using h1
    have hne : (e' != 0) = true := by simpa using h1
    have HT2 : Hid (T = (0, false, ⟨r.s, e'⟩)) := Lib.hid (by rw [HG0.out]; exact if_neg h1)
    clear HG0 h
    go_enter Tryz.func70, Tryz.ntmps70
    go_wp2_with (first | (go_at_call 88; refine HE.out.mono ?_; rintro e w1 ⟨rfl, rfl⟩) | (go_at_call 93; refine HGT.out.mono ?_; rintro e w2 ⟨rfl, hb2⟩; have HR2 := Lib.hid (HR.out.below hb2); have HB2 := Lib.hid hb2; have k0 := HR2.out.c0; have k1 := HR2.out.c1; have kf := HR2.out.fz; clear hb2 c0 hf))
    refine bodyPost_ret (v := .tuple #[.int .i64 0, .bool false]) (by simp [results, Tryz.results70, go_sem]) rfl ?_
    rw [HT2.out]
    exact ⟨rfl, HR2.out.setE e', grown_twoS (grown_toS HB2.out g) (grown_setS _ _ _ _)⟩
  subst h1
  have HT1 : Hid (T = if (fun _ => true) n then (n, true, ⟨rest, 0⟩) else (0, false, ⟨r.s, 3⟩)) := Lib.hid (by rw [HG0.out]; exact if_pos rfl)
  clear HG0
  · have HT2 : Hid (T = (n, true, ⟨rest, 0⟩)) := Lib.hid (by rw [HT1.out]; rfl)
    clear HT1 h
    go_enter Tryz.func70, Tryz.ntmps70
    go_wp2_with (first | (go_at_call 88; refine HE.out.mono ?_; rintro e w1 ⟨rfl, rfl⟩) | (go_at_call 93; refine HGT.out.mono ?_; rintro e w2 ⟨rfl, hb2⟩; have HR2 := Lib.hid (HR.out.below hb2); have HB2 := Lib.hid hb2; have k0 := HR2.out.c0; have k1 := HR2.out.c1; have kf := HR2.out.fz; clear hb2 c0 hf) | (go_at_call 71; refine (num1_any n w2).mono ?_; rintro e w3 ⟨rfl, rfl⟩))
    refine bodyPost_ret (v := .tuple #[.int .i64 n, .bool true]) (by simp [results, Tryz.results70, go_sem]) rfl ?_
    rw [HT2.out]
    have hs := HR2.out.setS (s := rest) (by omega)
    rw [h0] at hs
    exact ⟨rfl, hs, grown_twoS (grown_toS HB2.out g) (grown_setS _ _ _ _)⟩

end Go.Proofs.YtmplokdbbhlomaaGreatDoor

/-
  What num.Reader's Num, Upto, Text, and num.All, num.Text come to, over this seat's translation: contracts for callers.
-/
namespace Go.Proofs.YtmplokdbbhlomaaGreatDoor
open Go.RowKit

theorem rTake_I64 (may : Int → Bool) (r : Rd) : I64 (rTake may r).1 := by
  have h0 : I64 0 := by unfold I64; omega
  unfold rTake
  repeat' split
  all_goals first | exact getB_I64 _ | exact h0
theorem rTake_upto (most : Int) (r : Rd) : (rTake (uptoB most) r).2.1 = true → 0 ≤ (rTake (uptoB most) r).1 := by
  unfold rTake
  repeat' split
  all_goals first | (rename_i h1 h2 h3; intro _; simp [uptoB] at h3; exact h3.1) | (intro h; cases h)
set_option maxHeartbeats 800000 in
theorem num_any (g : Nat) (r : Rd) (w : World) (h : RdAt w g r) : Calls Tryz.prog 47 #[.pointer (some ⟨g, 0, none⟩)] w fun e w' => e = .returned (.int .i64 (rNum r).1) ∧ RdAt w' g (rNum r).2 ∧ w.grownBy w' (some g) := by
  have HT := Lib.hid (take_num g r w h)
  go_enter Tryz.func47, Tryz.ntmps47
  go_wp2_with (go_at_call 70; refine HT.out.mono ?_; rintro e w1 ⟨rfl, hr, hg⟩; have HR := Lib.hid hr; have HG := Lib.hid hg; clear hr hg)
  go_ret
  exact ⟨rfl, HR.out, HG.out⟩
theorem grown_allocS {w w' : World} {g : Nat} (o : Obj) (h : (w.alloc o).grownBy w' (some g)) : w.grownBy w' (some g) :=
  ⟨h.os, h.tape, h.output, Nat.le_trans (by simp) h.size, fun k hk hne => (h.block k (by simp; omega) hne).trans (by show (w.heap.push o)[k]? = _; rw [Array.getElem?_push_lt (by omega)]; simp [hk])⟩
end Go.Proofs.YtmplokdbbhlomaaGreatDoor

/-
  What num.All and num.Text come to, over this seat's translation: contracts for callers.
-/
namespace Go.Proofs.YtmplokdbbhlomaaGreatDoor
open Go.RowKit

theorem own_keepS {w w' : World} {B : Nat} {e : TypeId} {size n : Nat} {v : Value} {xs : List Value} (h : w.ownsRow B e size v n xs) (hb : Below w.heap.size w w') : w'.ownsRow B e size v n xs :=
  h.kept (row := none) ⟨hb.os, hb.tape, hb.output, hb.size, fun k hk _ => hb.block k hk⟩ (by cases v.ownBlock <;> simp)
theorem bld_below {B b : Nat} {xs : List Value} {w w' : World} (h : Lib.IsBuilder TB TU B b xs w) (hb : Below w.heap.size w w') : Lib.IsBuilder TB TU B b xs w' := by
  have go : ∀ p, Lib.BuilderAt TB TU B b p xs w → Lib.BuilderAt TB TU B b p xs w' := fun p h => by
    have hlt := h.lt
    obtain ⟨h1, v, h2, h3, h4⟩ := h
    exact ⟨h1, v, (hb.block b hlt).trans h2, own_keepS h3 hb, h4⟩
  exact h.imp (go _) (go _)
theorem bld_fresh (w : World) (B : Nat) (hB : B ≤ w.heap.size) : Lib.IsBuilder TB TU B w.heap.size [] (w.alloc (.cells #[.pointer none, .slice none 0 0] TB)) :=
  .inl ⟨hB, .slice none 0 0, by show (w.heap.push _)[w.heap.size]? = _; simp, World.ownsRow_nil _ _ _ _, by simp [Value.ownBlock]⟩
theorem bs_append (a b : List UInt8) : bs a ++ bs b = bs (a ++ b) := by
  apply ByteArray.ext
  simp [ByteArray.data_append]
theorem bytes_append (a b : List UInt8) : Lib.byteCells (a ++ b) = Lib.byteCells a ++ Lib.byteCells b := by simp [Lib.byteCells]
theorem seg_i64 {w : World} {B : Nat} {A : Option Addr} {l : List Int} (h : Seg w B A (l.map (Value.int .i64))) {k : Nat} (hk : k < l.length) : ∃ b o, A = some ⟨b, o, none⟩ ∧ b < B ∧ w.cell? ⟨b, o + k, none⟩ = some (.int .i64 l[k]) := by
  obtain ⟨b, o, e, hb, hc⟩ := h.at (k := k) (by simpa using hk)
  exact ⟨b, o, e, hb, by rw [hc]; simp⟩
theorem putAll_len : ∀ {l : List Int}, (∀ x ∈ l, I64 x) → (l.flatMap putN).length ≤ 10 * l.length
  | [], _ => by simp
  | x :: l, h => by
    have := putAll_len (l := l) fun y hy => h y (List.mem_cons_of_mem _ hy)
    have h1 := putN_len (h x (List.mem_cons_self ..))
    rw [List.flatMap_cons, List.length_append, List.length_cons]
    omega
set_option maxRecDepth 100000 in
set_option maxHeartbeats 1600000 in
theorem all_any (l : List Int) (A : Option Addr) (c : Nat) (w : World) (hs : Seg w w.heap.size A (l.map (Value.int .i64))) (hI : ∀ x ∈ l, I64 x) (hl : l.length ≤ 1000000) : Calls Tryz.prog 29 #[.slice A l.length c] w fun e w' => e = .returned (.string (bs (l.flatMap putN))) ∧ Below w.heap.size w w' := by
  have HS := Lib.hid hs
  have HI := Lib.hid hI
  have HB0 : Hid (Lib.IsBuilder TB TU w.heap.size w.heap.size (Lib.byteCells ((l.take 0).flatMap putN)) (w.alloc (.cells #[.pointer none, .slice none 0 0] TB))) := Lib.hid (bld_fresh w w.heap.size (Nat.le_refl _))
  have HW0 : Hid (Below w.heap.size w (w.alloc (.cells #[.pointer none, .slice none 0 0] TB))) := Lib.hid ((Below.refl _ _).alloc (Nat.le_refl _) _)
  clear hs hI
  go_enter Tryz.func29, Tryz.ntmps29
  go_wp2_with fail
  go_loopw [5, 8] (fun _ i wr => ∃ k : Nat, k ≤ l.length ∧ i = .int .i64 k ∧ Hid (Lib.IsBuilder TB TU w.heap.size w.heap.size (Lib.byteCells ((l.take k).flatMap putN)) wr) ∧ Hid (Below w.heap.size w wr)) (fun _ i _ => l.length - (intOf i).toNat)
  case atStart => exact ⟨0, Nat.zero_le _, rfl, HB0, HW0⟩
  case round =>
    clear HB0 HW0
    obtain ⟨k, hk, rfl, HB, HW⟩ := hrel
    by_cases hlt : k < l.length
    · obtain ⟨b, o, rfl, hb, e0⟩ := seg_i64 (HS.out.below HW.out) hlt
      have hx := HI.out _ (List.getElem_mem hlt)
      have hlen := putAll_len (l := l.take k) (fun x hx => HI.out x (List.mem_of_mem_take hx))
      rw [List.length_take] at hlen
      have HPT := Lib.hid (put_any l[k] wr hx)
      have hpl := putN_len hx
      have HSN : Hid (Lib.byteCells ((l.take (k + 1)).flatMap putN) = Lib.byteCells ((l.take k).flatMap putN) ++ Lib.byteCells (putN l[k])) := Lib.hid (by rw [List.take_succ_eq_append_getElem hlt, List.flatMap_append, bytes_append]; simp)
      have hsz := HW.out.size
      have hk0 : (0 : Int) ≤ (k : Int) := by omega
      have hkb : (k : Int) < (l.length : Int) := by omega
      generalize l[k] = x at *
      generalize (l.take k).flatMap putN = ys at *
      go_wp2_with (first | (go_at_call 28; refine HPT.out.mono ?_; rintro e w1 ⟨rfl, hb1⟩; have HB1 := Lib.hid (bld_below HB.out hb1); have HW1 : Hid (Below w.heap.size w w1) := Lib.hid (HW.out.trans (hb1.mono hsz)); clear hb1 e0) | (go_at_call 38; refine (write_any w.heap.size w.heap.size _ (bs (putN x)) w1 HB1.out (by rw [bs_size, Lib.byteCells_length]; omega) HW1.out.size).mono ?_; rintro e w2 ⟨rfl, hbd, hb2, _⟩; have HB2 := Lib.hid hbd; have HW2 : Hid (Below w.heap.size w w2) := Lib.hid (HW1.out.trans hb2); clear hbd hb2))
      go_roundw
      case rel => exact ⟨k + 1, by omega, by go_num, by rw [HSN.out, ← strCells_mk (putN x)]; exact HB2, HW2⟩
      case measure => simp [intOf]; omega
    · obtain rfl : k = l.length := by omega
      have hb := HB.out
      rw [List.take_length] at hb
      have HST := Lib.hid (Tryz.Builder_String_any w.heap.size w.heap.size _ wr hb HW.out.size)
      clear hb HB
      go_wp2_with (go_at_call 39; refine HST.out.mono ?_; rintro e w1 ⟨rfl, hb1⟩; have HW1 : Hid (Below w.heap.size w w1) := Lib.hid (HW.out.trans hb1); clear hb1)
      go_ret
      exact ⟨rfl, HW1.out⟩
set_option maxHeartbeats 800000 in
theorem text_any (l : List UInt8) (w : World) (hl : l.length ≤ 1000000) : Calls Tryz.prog 69 #[.string (bs l)] w fun e w' => e = .returned (.string (bs (putT l))) ∧ Below w.heap.size w w' := by
  have HPT := Lib.hid (put_any (l.length : Int) w (by unfold I64; omega))
  have hsz := bs_size l
  have HPE : Hid (putT l = putN (l.length : Int) ++ l) := Lib.hid rfl
  have hpl := putN_len (n := (l.length : Int)) (by unfold I64; omega)
  generalize putN (l.length : Int) = u at *
  have hsu := bs_size u
  have hbig : ¬ 9223372036854775807 < u.length + l.length := by omega
  have hap := bs_append u l
  go_enter Tryz.func69, Tryz.ntmps69
  go_wp2_with (go_at_call 28; refine HPT.out.mono ?_; rintro e w1 ⟨rfl, hb1⟩; have HW1 := Lib.hid hb1; clear hb1)
  go_ret
  exact ⟨by rw [HPE.out]; rfl, HW1.out⟩
end Go.Proofs.YtmplokdbbhlomaaGreatDoor
