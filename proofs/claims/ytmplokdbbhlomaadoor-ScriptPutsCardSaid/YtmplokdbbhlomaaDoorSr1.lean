/-
  What complineref07.Put and Text come to, over this seat's translation: contracts for callers.
-/
import Derived.Test.YtmplokdbbhlomaaDoorSc14
namespace Go.Proofs.YtmplokdbbhlomaaDoor
open Go.RowKit

theorem conv_new (w : World) (n : Nat) (hn : n < 256) : (convert 40 9 (.slice (some ⟨w.heap.size, 0, none⟩) 1 1)).run Tryd.prog (w.alloc (.cells #[.int .u8 (n : Int)] 5)) = .ok (.string (bs [n.toUInt8])) (w.alloc (.cells #[.int .u8 (n : Int)] 5)) :=
  run_convert_bytes_back (w.alloc (.cells #[.int .u8 (n : Int)] 5)) _ _ TU ⟨w.heap.size, 0, none⟩ 1 [n.toUInt8] Tryd.underlying40 Tryd.underlying5 Tryd.underlying9 fun j hj => by
    have hj0 : j = 0 := by simpa using hj
    subst hj0
    have h := cell_new w #[.int .u8 (n : Int)] 5 0 (b := w.heap.size) rfl
    have e : (⟨w.heap.size, 0, none⟩ : Addr).add 0 = ⟨w.heap.size, 0, none⟩ := by simp [Addr.add]
    rw [e, h]
    simp [toUInt8_nat hn]
theorem zig_ref {n : Int} (h : I64 n) : (0 ≤ n → IntKind.u64.wrap (2 * IntKind.u64.wrap n) = ((Lib.zigzag n : Nat) : Int)) ∧ (¬ 0 ≤ n → IntKind.u64.wrap (IntKind.u64.wrap (2 * IntKind.u64.wrap (wrap64 (-wrap64 (n + 1)))) + 1) = ((Lib.zigzag n : Nat) : Int)) := by
  unfold I64 at h
  refine ⟨fun h0 => ?_, fun h0 => ?_⟩
  · rw [IntKind.wrap_u64, IntKind.wrap_u64]
    unfold Lib.zigzag
    rw [if_pos h0]
    omega
  · rw [IntKind.wrap_u64, IntKind.wrap_u64, IntKind.wrap_u64]
    unfold wrap64
    unfold Lib.zigzag
    rw [if_neg h0]
    omega
set_option maxRecDepth 100000 in
set_option maxHeartbeats 1600000 in
theorem rput_any (n : Int) (w : World) (h : I64 n) : Calls Tryd.prog 26 #[.int .i64 n] w fun e w' => e = .returned (.string (bs (putN n))) ∧ Below w.heap.size w w' := by
  obtain ⟨hz1, hz2⟩ := zig_ref h
  have hzl := zig_lt h
  have HP : Hid (putN n = Lib.uvarint (Lib.zigzag n)) := Lib.hid rfl
  by_cases h0 : 0 ≤ n
  · have hd : decide ((0 : Int) ≤ n) = true := decide_eq_true h0
    have hz := hz1 h0
    clear hz1 hz2
    go_enter Tryd.func26, Tryd.ntmps26
    go_wp2_with fail
    clear hz
    generalize Lib.zigzag n = x at *
    have hlen := Lib.uvarint_length64 hzl
    go_loopw [3, 4] (fun vx vs wr => ∃ (y : Nat) (pre : List UInt8), vx = .int .u64 y ∧ y ≤ x ∧ Hid (Lib.uvarint x = pre ++ Lib.uvarint y) ∧ vs = .string (bs pre) ∧ Hid (Below w.heap.size w wr)) (fun vx _ _ => (intOf vx).toNat)
    case atStart => exact ⟨x, [], rfl, Nat.le_refl _, rfl, rfl, Below.refl _ _⟩
    case round =>
      obtain ⟨y, pre, rfl, hy, HSP, rfl, HB⟩ := hrel
      have hpl : pre.length + (Lib.uvarint y).length ≤ 10 := by
        have h2 := congrArg List.length HSP.out
        rw [List.length_append] at h2
        omega
      have hsp := bs_size pre
      have hbig : ¬ 9223372036854775807 < pre.length + 1 := by omega
      by_cases h128 : 128 ≤ y
      · have hge : decide ((127 : Int) < (y : Int)) = true := decide_eq_true (by omega)
        have hwb : IntKind.u64.wrap (128 + (y : Int) % 128) = ((y % 128 + 128 : Nat) : Int) := by rw [IntKind.wrap_u64]; omega
        have hw8 : IntKind.u8.wrap ((y % 128 + 128 : Nat) : Int) = ((y % 128 + 128 : Nat) : Int) := by rw [IntKind.wrap_u8]; omega
        have hby : (128 + (y : Int) % 128) = ((y % 128 + 128 : Nat) : Int) := by omega
        have HYB : Hid (y / 128 ≤ x ∧ y / 128 < y) := Lib.hid (by omega)
        have HNX : Hid (Lib.uvarint x = (pre ++ [(y % 128 + 128).toUInt8]) ++ Lib.uvarint (y / 128)) := Lib.hid (by rw [HSP.out, Lib.uvarint_big h128]; simp)
        have hcv := conv_new wr (y % 128 + 128) (by omega)
        have hap := bs_append pre [(y % 128 + 128).toUInt8]
        have hs1 := bs_size [(y % 128 + 128).toUInt8]
        have HBA : Hid (Below w.heap.size w (wr.alloc (.cells #[.int .u8 ((y % 128 + 128 : Nat) : Int)] 5))) := Lib.hid (HB.out.alloc HB.out.size _)
        generalize y % 128 + 128 = q at *
        go_wp2_with fail
        go_roundw
        case rel => exact ⟨y / 128, pre ++ [q.toUInt8], by congr 1, HYB.out.1, HNX, rfl, HBA⟩
        case measure =>
          have := HYB.out.2
          simp only [intOf]
          omega
      · have hge : decide ((127 : Int) < (y : Int)) = false := decide_eq_false (by omega)
        have hw8 : IntKind.u8.wrap (y : Int) = (y : Int) := by rw [IntKind.wrap_u8]; omega
        have HSM : Hid (Lib.uvarint x = pre ++ [y.toUInt8]) := Lib.hid (by rw [HSP.out, Lib.uvarint_small (by omega)])
        have hcv := conv_new wr y (by omega)
        have hap := bs_append pre [y.toUInt8]
        have hs1 := bs_size [y.toUInt8]
        have HBA : Hid (Below w.heap.size w (wr.alloc (.cells #[.int .u8 (y : Int)] 5))) := Lib.hid (HB.out.alloc HB.out.size _)
        have hym : (y : Int) % 256 = (y : Int) := by omega
        go_wp2_with fail
        go_ret
        exact ⟨by rw [HP.out, HSM.out]; rfl, HBA.out⟩
  · have hd : decide ((0 : Int) ≤ n) = false := decide_eq_false h0
    have hz : IntKind.u64.wrap (IntKind.u64.wrap (2 * IntKind.u64.wrap (wrap64 (-wrap64 (n + 1)))) + 1) = ((Lib.zigzag n : Nat) : Int) := hz2 h0
    clear hz1 hz2
    go_enter Tryd.func26, Tryd.ntmps26
    go_wp2_with fail
    clear hz
    generalize Lib.zigzag n = x at *
    have hlen := Lib.uvarint_length64 hzl
    go_loopw [3, 4] (fun vx vs wr => ∃ (y : Nat) (pre : List UInt8), vx = .int .u64 y ∧ y ≤ x ∧ Hid (Lib.uvarint x = pre ++ Lib.uvarint y) ∧ vs = .string (bs pre) ∧ Hid (Below w.heap.size w wr)) (fun vx _ _ => (intOf vx).toNat)
    case atStart => exact ⟨x, [], rfl, Nat.le_refl _, rfl, rfl, Below.refl _ _⟩
    case round =>
      obtain ⟨y, pre, rfl, hy, HSP, rfl, HB⟩ := hrel
      have hpl : pre.length + (Lib.uvarint y).length ≤ 10 := by
        have h2 := congrArg List.length HSP.out
        rw [List.length_append] at h2
        omega
      have hsp := bs_size pre
      have hbig : ¬ 9223372036854775807 < pre.length + 1 := by omega
      by_cases h128 : 128 ≤ y
      · have hge : decide ((127 : Int) < (y : Int)) = true := decide_eq_true (by omega)
        have hwb : IntKind.u64.wrap (128 + (y : Int) % 128) = ((y % 128 + 128 : Nat) : Int) := by rw [IntKind.wrap_u64]; omega
        have hw8 : IntKind.u8.wrap ((y % 128 + 128 : Nat) : Int) = ((y % 128 + 128 : Nat) : Int) := by rw [IntKind.wrap_u8]; omega
        have hby : (128 + (y : Int) % 128) = ((y % 128 + 128 : Nat) : Int) := by omega
        have HYB : Hid (y / 128 ≤ x ∧ y / 128 < y) := Lib.hid (by omega)
        have HNX : Hid (Lib.uvarint x = (pre ++ [(y % 128 + 128).toUInt8]) ++ Lib.uvarint (y / 128)) := Lib.hid (by rw [HSP.out, Lib.uvarint_big h128]; simp)
        have hcv := conv_new wr (y % 128 + 128) (by omega)
        have hap := bs_append pre [(y % 128 + 128).toUInt8]
        have hs1 := bs_size [(y % 128 + 128).toUInt8]
        have HBA : Hid (Below w.heap.size w (wr.alloc (.cells #[.int .u8 ((y % 128 + 128 : Nat) : Int)] 5))) := Lib.hid (HB.out.alloc HB.out.size _)
        generalize y % 128 + 128 = q at *
        go_wp2_with fail
        go_roundw
        case rel => exact ⟨y / 128, pre ++ [q.toUInt8], by congr 1, HYB.out.1, HNX, rfl, HBA⟩
        case measure =>
          have := HYB.out.2
          simp only [intOf]
          omega
      · have hge : decide ((127 : Int) < (y : Int)) = false := decide_eq_false (by omega)
        have hw8 : IntKind.u8.wrap (y : Int) = (y : Int) := by rw [IntKind.wrap_u8]; omega
        have HSM : Hid (Lib.uvarint x = pre ++ [y.toUInt8]) := Lib.hid (by rw [HSP.out, Lib.uvarint_small (by omega)])
        have hcv := conv_new wr y (by omega)
        have hap := bs_append pre [y.toUInt8]
        have hs1 := bs_size [y.toUInt8]
        have HBA : Hid (Below w.heap.size w (wr.alloc (.cells #[.int .u8 (y : Int)] 5))) := Lib.hid (HB.out.alloc HB.out.size _)
        have hym : (y : Int) % 256 = (y : Int) := by omega
        go_wp2_with fail
        go_ret
        exact ⟨by rw [HP.out, HSM.out]; rfl, HBA.out⟩
set_option maxHeartbeats 800000 in
theorem rtextp_any (l : List UInt8) (w : World) (hl : l.length ≤ 1000000) : Calls Tryd.prog 45 #[.string (bs l)] w fun e w' => e = .returned (.string (bs (putT l))) ∧ Below w.heap.size w w' := by
  have HPT := Lib.hid (rput_any (l.length : Int) w (by unfold I64; omega))
  have hsz := bs_size l
  have HPE : Hid (putT l = putN (l.length : Int) ++ l) := Lib.hid rfl
  have hpl := putN_len (n := (l.length : Int)) (by unfold I64; omega)
  generalize putN (l.length : Int) = u at *
  have hsu := bs_size u
  have hbig : ¬ 9223372036854775807 < u.length + l.length := by omega
  have hap := bs_append u l
  go_enter Tryd.func45, Tryd.ntmps45
  go_wp2_with (go_at_call 26; refine HPT.out.mono ?_; rintro e w1 ⟨rfl, hb1⟩; have HW1 := Lib.hid hb1; clear hb1)
  go_ret
  exact ⟨by rw [HPE.out]; rfl, HW1.out⟩
end Go.Proofs.YtmplokdbbhlomaaDoor
