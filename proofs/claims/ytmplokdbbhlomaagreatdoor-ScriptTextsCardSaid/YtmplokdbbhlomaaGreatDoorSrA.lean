/-
  Several texts in one: Sr1, Sr2, Sr3, SrL.
-/
import Derived.Test.YtmplokdbbhlomaaGreatDoorScE
/-
  What complineref07.Put and Text come to, over this seat's translation: contracts for callers.
-/
namespace Go.Proofs.YtmplokdbbhlomaaGreatDoor
open Go.RowKit

theorem conv_new (w : World) (n : Nat) (hn : n < 256) : (convert 71 9 (.slice (some ⟨w.heap.size, 0, none⟩) 1 1)).run Tryz.prog (w.alloc (.cells #[.int .u8 (n : Int)] 5)) = .ok (.string (bs [n.toUInt8])) (w.alloc (.cells #[.int .u8 (n : Int)] 5)) :=
  run_convert_bytes_back (w.alloc (.cells #[.int .u8 (n : Int)] 5)) _ _ TU ⟨w.heap.size, 0, none⟩ 1 [n.toUInt8] Tryz.underlying71 Tryz.underlying5 Tryz.underlying9 fun j hj => by
    have hj0 : j = 0 := by simpa using hj
    subst hj0
    have h := cell_new w #[.int .u8 (n : Int)] 5 0 (b := w.heap.size) rfl
    have e : (⟨w.heap.size, 0, none⟩ : Addr).add 0 = ⟨w.heap.size, 0, none⟩ := by simp [Addr.add]
    rw [e, h]
    simp [toUInt8_nat hn]
theorem zig_ref {n : Int} (h : I64 n) : (0 ≤ n → IntKind.u64.wrap (2 * IntKind.u64.wrap n) = ((Lib.zigzag n : Nat) : Int)) ∧ (¬ 0 ≤ n → IntKind.u64.wrap (IntKind.u64.wrap (2 * IntKind.u64.wrap (wrap64 (-wrap64 (n + 1)))) + 1) = ((Lib.zigzag n : Nat) : Int)) := by
  unfold I64 at h
  refine ⟨fun h0 => ?_, fun h0 => ?_⟩
  · rw [IntKind.wrap_u64, IntKind.wrap_u64]
    unfold Lib.zigzag
    rw [if_pos h0]
    omega
  · rw [IntKind.wrap_u64, IntKind.wrap_u64, IntKind.wrap_u64]
    unfold wrap64
    unfold Lib.zigzag
    rw [if_neg h0]
    omega
set_option maxRecDepth 100000 in
set_option maxHeartbeats 1600000 in
theorem rput_any (n : Int) (w : World) (h : I64 n) : Calls Tryz.prog 35 #[.int .i64 n] w fun e w' => e = .returned (.string (bs (putN n))) ∧ Below w.heap.size w w' := by
  obtain ⟨hz1, hz2⟩ := zig_ref h
  have hzl := zig_lt h
  have HP : Hid (putN n = Lib.uvarint (Lib.zigzag n)) := Lib.hid rfl
  by_cases h0 : 0 ≤ n
  · have hd : decide ((0 : Int) ≤ n) = true := decide_eq_true h0
    have hz := hz1 h0
    clear hz1 hz2
    go_enter Tryz.func35, Tryz.ntmps35
    go_wp2_with fail
    clear hz
    generalize Lib.zigzag n = x at *
    have hlen := Lib.uvarint_length64 hzl
    go_loopw [3, 4] (fun vx vs wr => ∃ (y : Nat) (pre : List UInt8), vx = .int .u64 y ∧ y ≤ x ∧ Hid (Lib.uvarint x = pre ++ Lib.uvarint y) ∧ vs = .string (bs pre) ∧ Hid (Below w.heap.size w wr)) (fun vx _ _ => (intOf vx).toNat)
    case atStart => exact ⟨x, [], rfl, Nat.le_refl _, rfl, rfl, Below.refl _ _⟩
    case round =>
      obtain ⟨y, pre, rfl, hy, HSP, rfl, HB⟩ := hrel
      have hpl : pre.length + (Lib.uvarint y).length ≤ 10 := by
        have h2 := congrArg List.length HSP.out
        rw [List.length_append] at h2
        omega
      have hsp := bs_size pre
      have hbig : ¬ 9223372036854775807 < pre.length + 1 := by omega
      by_cases h128 : 128 ≤ y
      · have hge : decide ((127 : Int) < (y : Int)) = true := decide_eq_true (by omega)
        have hwb : IntKind.u64.wrap (128 + (y : Int) % 128) = ((y % 128 + 128 : Nat) : Int) := by rw [IntKind.wrap_u64]; omega
        have hw8 : IntKind.u8.wrap ((y % 128 + 128 : Nat) : Int) = ((y % 128 + 128 : Nat) : Int) := by rw [IntKind.wrap_u8]; omega
        have hby : (128 + (y : Int) % 128) = ((y % 128 + 128 : Nat) : Int) := by omega
        have HYB : Hid (y / 128 ≤ x ∧ y / 128 < y) := Lib.hid (by omega)
        have HNX : Hid (Lib.uvarint x = (pre ++ [(y % 128 + 128).toUInt8]) ++ Lib.uvarint (y / 128)) := Lib.hid (by rw [HSP.out, Lib.uvarint_big h128]; simp)
        have hcv := conv_new wr (y % 128 + 128) (by omega)
        have hap := bs_append pre [(y % 128 + 128).toUInt8]
        have hs1 := bs_size [(y % 128 + 128).toUInt8]
        have HBA : Hid (Below w.heap.size w (wr.alloc (.cells #[.int .u8 ((y % 128 + 128 : Nat) : Int)] 5))) := Lib.hid (HB.out.alloc HB.out.size _)
        generalize y % 128 + 128 = q at *
        go_wp2_with fail
        go_roundw
        case rel => exact ⟨y / 128, pre ++ [q.toUInt8], by congr 1, HYB.out.1, HNX, rfl, HBA⟩
        case measure =>
          have := HYB.out.2
          simp only [intOf]
          omega
      · have hge : decide ((127 : Int) < (y : Int)) = false := decide_eq_false (by omega)
        have hw8 : IntKind.u8.wrap (y : Int) = (y : Int) := by rw [IntKind.wrap_u8]; omega
        have HSM : Hid (Lib.uvarint x = pre ++ [y.toUInt8]) := Lib.hid (by rw [HSP.out, Lib.uvarint_small (by omega)])
        have hcv := conv_new wr y (by omega)
        have hap := bs_append pre [y.toUInt8]
        have hs1 := bs_size [y.toUInt8]
        have HBA : Hid (Below w.heap.size w (wr.alloc (.cells #[.int .u8 (y : Int)] 5))) := Lib.hid (HB.out.alloc HB.out.size _)
        have hym : (y : Int) % 256 = (y : Int) := by omega
        go_wp2_with fail
        go_ret
        exact ⟨by rw [HP.out, HSM.out]; rfl, HBA.out⟩
  · have hd : decide ((0 : Int) ≤ n) = false := decide_eq_false h0
    have hz : IntKind.u64.wrap (IntKind.u64.wrap (2 * IntKind.u64.wrap (wrap64 (-wrap64 (n + 1)))) + 1) = ((Lib.zigzag n : Nat) : Int) := hz2 h0
    clear hz1 hz2
    go_enter Tryz.func35, Tryz.ntmps35
    go_wp2_with fail
    clear hz
    generalize Lib.zigzag n = x at *
    have hlen := Lib.uvarint_length64 hzl
    go_loopw [3, 4] (fun vx vs wr => ∃ (y : Nat) (pre : List UInt8), vx = .int .u64 y ∧ y ≤ x ∧ Hid (Lib.uvarint x = pre ++ Lib.uvarint y) ∧ vs = .string (bs pre) ∧ Hid (Below w.heap.size w wr)) (fun vx _ _ => (intOf vx).toNat)
    case atStart => exact ⟨x, [], rfl, Nat.le_refl _, rfl, rfl, Below.refl _ _⟩
    case round =>
      obtain ⟨y, pre, rfl, hy, HSP, rfl, HB⟩ := hrel
      have hpl : pre.length + (Lib.uvarint y).length ≤ 10 := by
        have h2 := congrArg List.length HSP.out
        rw [List.length_append] at h2
        omega
      have hsp := bs_size pre
      have hbig : ¬ 9223372036854775807 < pre.length + 1 := by omega
      by_cases h128 : 128 ≤ y
      · have hge : decide ((127 : Int) < (y : Int)) = true := decide_eq_true (by omega)
        have hwb : IntKind.u64.wrap (128 + (y : Int) % 128) = ((y % 128 + 128 : Nat) : Int) := by rw [IntKind.wrap_u64]; omega
        have hw8 : IntKind.u8.wrap ((y % 128 + 128 : Nat) : Int) = ((y % 128 + 128 : Nat) : Int) := by rw [IntKind.wrap_u8]; omega
        have hby : (128 + (y : Int) % 128) = ((y % 128 + 128 : Nat) : Int) := by omega
        have HYB : Hid (y / 128 ≤ x ∧ y / 128 < y) := Lib.hid (by omega)
        have HNX : Hid (Lib.uvarint x = (pre ++ [(y % 128 + 128).toUInt8]) ++ Lib.uvarint (y / 128)) := Lib.hid (by rw [HSP.out, Lib.uvarint_big h128]; simp)
        have hcv := conv_new wr (y % 128 + 128) (by omega)
        have hap := bs_append pre [(y % 128 + 128).toUInt8]
        have hs1 := bs_size [(y % 128 + 128).toUInt8]
        have HBA : Hid (Below w.heap.size w (wr.alloc (.cells #[.int .u8 ((y % 128 + 128 : Nat) : Int)] 5))) := Lib.hid (HB.out.alloc HB.out.size _)
        generalize y % 128 + 128 = q at *
        go_wp2_with fail
        go_roundw
        case rel => exact ⟨y / 128, pre ++ [q.toUInt8], by congr 1, HYB.out.1, HNX, rfl, HBA⟩
        case measure =>
          have := HYB.out.2
          simp only [intOf]
          omega
      · have hge : decide ((127 : Int) < (y : Int)) = false := decide_eq_false (by omega)
        have hw8 : IntKind.u8.wrap (y : Int) = (y : Int) := by rw [IntKind.wrap_u8]; omega
        have HSM : Hid (Lib.uvarint x = pre ++ [y.toUInt8]) := Lib.hid (by rw [HSP.out, Lib.uvarint_small (by omega)])
        have hcv := conv_new wr y (by omega)
        have hap := bs_append pre [y.toUInt8]
        have hs1 := bs_size [y.toUInt8]
        have HBA : Hid (Below w.heap.size w (wr.alloc (.cells #[.int .u8 (y : Int)] 5))) := Lib.hid (HB.out.alloc HB.out.size _)
        have hym : (y : Int) % 256 = (y : Int) := by omega
        go_wp2_with fail
        go_ret
        exact ⟨by rw [HP.out, HSM.out]; rfl, HBA.out⟩
end Go.Proofs.YtmplokdbbhlomaaGreatDoor

/-
  What complineref07.Get comes to, over this seat's translation: a contract for callers. (Printed by gen_sr2.py.)
-/
namespace Go.Proofs.YtmplokdbbhlomaaGreatDoor
open Go.RowKit

/-- What the first k bytes spell. -/
def lowB (s : List UInt8) : Nat → Nat
  | 0 => 0
  | k + 1 => lowB s k + (s.getD k 0).toNat % 128 * 2 ^ (7 * k)
theorem getB_skip (s : List UInt8) : ∀ k, k ≤ 9 → k ≤ s.length → (∀ i, i < k → 128 ≤ (s.getD i 0).toNat) → getB s = getFrom (s.drop k) k (lowB s k)
  | 0, _, _, _ => rfl
  | k + 1, h9, hl, hb => by
    rw [getB_skip s k (by omega) (by omega) (fun i hi => hb i (by omega))]
    have hk : k < s.length := by omega
    have e : s.getD k 0 = s[k] := by simp [List.getD, hk]
    have hc := hb k (by omega)
    rw [e] at hc
    rw [getFrom_step hk (by omega), if_neg (by omega), if_neg (by omega)]
    rw [show lowB s (k + 1) = lowB s k + (s.getD k 0).toNat % 128 * 2 ^ (7 * k) from rfl, e]
theorem low_lt (s : List UInt8) : ∀ k, lowB s k < 2 ^ (7 * k)
  | 0 => by simp [lowB]
  | k + 1 => by
    unfold lowB
    exact pow_up (low_lt s k)
theorem low_mono (s : List UInt8) (k : Nat) : ∀ n, lowB s k ≤ lowB s (k + n)
  | 0 => Nat.le_refl _
  | n + 1 => Nat.le_trans (low_mono s k n) (by show lowB s (k + n) ≤ lowB s (k + n) + _; omega)
/-- How many bytes a number has. -/
def manyB (s : List UInt8) : Nat := if (getB s).2.2 = 0 then s.length - (getB s).2.1.length else 0
theorem many_drop {s : List UInt8} (h : (getB s).2.2 = 0) : s.drop (manyB s) = (getB s).2.1 := by
  have hg := (get_got (s := s) (r := (getB s).2.1) (n := (getB s).1) (by rw [← h])).1
  have hl := congrArg List.length hg
  rw [List.length_append] at hl
  unfold manyB
  rw [if_pos h]
  generalize (getB s).2.1 = r at *
  generalize putN (getB s).1 = q at *
  have e : s.length - r.length = q.length := by omega
  rw [e, hg]
  simp
theorem many_le (s : List UInt8) : manyB s ≤ s.length := by
  unfold manyB
  split <;> omega
theorem get_at {s : List UInt8} {k : Nat} (hk : k < s.length) (h9 : k ≤ 9) (hb : ∀ i, i < k → 128 ≤ (s.getD i 0).toNat) : getB s = if k = 9 ∧ 1 < (s.getD k 0).toNat then (0, [], 3) else if (s.getD k 0).toNat < 128 then (if (s.getD k 0).toNat = 0 ∧ 0 < k then (0, [], 3) else (unzig (lowB s k + (s.getD k 0).toNat * 2 ^ (7 * k)), s.drop (k + 1), 0)) else getFrom (s.drop (k + 1)) (k + 1) (lowB s k + (s.getD k 0).toNat % 128 * 2 ^ (7 * k)) := by
  have e : s.getD k 0 = s[k] := by simp [List.getD, hk]
  rw [getB_skip s k h9 (by omega) hb, e]
  exact getFrom_step hk (by omega) _
theorem getD_bs (l : List UInt8) {k : Nat} (hk : k < l.length) : ∃ c, (bs l)[k]'(by rw [bs_size]; exact hk) = c ∧ c = l.getD k 0 := ⟨_, rfl, by
  show l[k] = _
  simp [List.getD, hk]⟩
theorem low_bound {s : List UInt8} {k : Nat} (h : k < 9 ∨ k = 9 ∧ (s.getD k 0).toNat ≤ 1) : lowB s (k + 1) < 18446744073709551616 := by
  rcases h with h | ⟨rfl, h⟩
  · have h1 := low_lt s (k + 1)
    have h2 : (2 : Nat) ^ (7 * (k + 1)) ≤ 2 ^ 63 := Nat.pow_le_pow_right (by decide) (by omega)
    have : (2 : Nat) ^ 63 = 9223372036854775808 := by decide
    omega
  · have h1 := low_lt s 9
    show lowB s 9 + (s.getD 9 0).toNat % 128 * 2 ^ (7 * 9) < _
    have e : (2 : Nat) ^ (7 * 9) = 9223372036854775808 := by decide
    rw [e] at h1 ⊢
    omega
set_option maxRecDepth 100000 in
set_option maxHeartbeats 16000000 in
theorem rget_any (l : List UInt8) (w : World) (hl : l.length ≤ 1000000000) : Calls Tryz.prog 105 #[.string (bs l)] w fun e w' => e = .returned (.tuple #[.int .i64 (getB l).1, .int .i64 (manyB l : Nat), .int .i64 (getB l).2.2]) ∧ Below w.heap.size w w' := by
  have hsz := bs_size l
  obtain ⟨G, HGE⟩ : ∃ G, Hid (G = getB l) := ⟨_, Lib.hid rfl⟩
  obtain ⟨M, HME⟩ : ∃ M, Hid (M = manyB l) := ⟨_, Lib.hid rfl⟩
  have HMB : Hid (M = if G.2.2 = 0 then l.length - G.2.1.length else 0) := Lib.hid (by rw [HME.out, HGE.out]; rfl)
  have HAT := Lib.hid (fun k (hk : k < l.length) (h9 : k ≤ 9) hb => get_at (s := l) hk h9 hb)
  have HSH : Hid (l.length ≤ 9 → (∀ i, i < l.length → 128 ≤ (l.getD i 0).toNat) → G = (0, [], 4)) := Lib.hid fun h9 hb => by
    rw [HGE.out, getB_skip l l.length h9 (Nat.le_refl _) hb]
    exact getFrom_short (Nat.le_refl _) (by omega)
  rw [← HGE.out, ← HME.out]
  rw [← HGE.out] at HAT
  clear HGE HME
  go_enter Tryz.func105, Tryz.ntmps105
  go_wp2_with fail
  go_loopw [5] (fun i wr => ∃ k : Nat, k ≤ 9 ∧ k ≤ l.length ∧ i = .int .i64 k ∧ Hid (∀ i, i < k → 128 ≤ (l.getD i 0).toNat) ∧ Hid (Below w.heap.size w wr)) (fun i _ => 9 - (intOf i).toNat)
  case atStart => exact ⟨0, by omega, Nat.zero_le _, rfl, fun i hi => by omega, Below.refl _ _⟩
  case round =>
    obtain ⟨k, hk9, hkl, rfl, HBY, HB⟩ := hrel
    by_cases hend : k = l.length
    · subst hend
      have hd1 : decide ((l.length : Int) < (l.length : Int)) = false := decide_eq_false (by omega)
      have he1 : ((l.length : Int) == (l.length : Int)) = true := by simp
      have HE : Hid (G = (0, [], 4)) := Lib.hid (HSH.out hk9 HBY.out)
      have HM : Hid (M = 0) := Lib.hid (by rw [HMB.out, HE.out]; rfl)
      clear HSH HAT HMB
      go_wp2_with fail
      refine bodyPost_ret (v := .tuple #[.int .i64 0, .int .i64 0, .int .i64 4]) (by simp [results, Tryz.results105, go_sem]) rfl ?_
      exact ⟨by rw [HE.out, HM.out]; rfl, HB.out⟩
    have hlt : k < l.length := by omega
    have hd1 : decide ((k : Int) < (l.length : Int)) = true := decide_eq_true (by omega)
    have he1 : ((k : Int) == (l.length : Int)) = false := by simpa using (show (k : Int) ≠ (l.length : Int) by omega)
    have HG := Lib.hid (HAT.out k hlt hk9 HBY.out)
    have HLB := Lib.hid (fun h => low_bound (s := l) (k := k) h)
    have HLS : Hid (lowB l (k + 1) = lowB l k + (l.getD k 0).toNat % 128 * 2 ^ (7 * k)) := Lib.hid rfl
    have hkb : k < (bs l).size := by rw [bs_size]; exact hlt
    obtain ⟨c, hce, hcd⟩ := getD_bs l hlt
    have HBN : Hid (128 ≤ c.toNat → ∀ i, i < k + 1 → 128 ≤ (l.getD i 0).toNat) := Lib.hid fun h i hi => by
      by_cases e : i = k
      · rw [e, ← hcd]; exact h
      · exact HBY.out i (by omega)
    rw [← hcd] at HG HLB HLS
    have hc := c.toNat_lt
    have hw1 : IntKind.i64.wrap ((k : Int) + 1) = (k : Int) + 1 := IntWalk.i64_in _ (by omega)
    clear hcd HSH HAT HBY hend
    by_cases h127 : 127 < c.toNat
    · have hd2 : decide ((127 : Int) < (c.toNat : Int)) = true := decide_eq_true (by omega)
      by_cases h9 : k < 9
      · have hd3 : decide ((k : Int) < 9) = true := decide_eq_true (by omega)
        have HB2 : Hid (∀ i, i < k + 1 → 128 ≤ (l.getD i 0).toNat) := Lib.hid (HBN.out (by omega))
        clear HG HLB HLS HBN HMB
        go_wp2_with fail
        go_roundw
        case rel => exact ⟨k + 1, by omega, by omega, by go_num, HB2, HB⟩
        case measure => simp [intOf]; omega
      · obtain rfl : k = 9 := by omega
        have hd3 : decide ((1 : Int) < (c.toNat : Int)) = true := decide_eq_true (by omega)
        have HE : Hid (G = (0, [], 3)) := Lib.hid (by rw [HG.out, if_pos ⟨rfl, by omega⟩])
        have HM : Hid (M = 0) := Lib.hid (by rw [HMB.out, HE.out]; rfl)
        clear HG HLB HLS HBN HMB
        go_wp2_with fail
        refine bodyPost_ret (v := .tuple #[.int .i64 0, .int .i64 0, .int .i64 3]) (by simp [results, Tryz.results105, go_sem]) rfl ?_
        exact ⟨by rw [HE.out, HM.out]; rfl, HB.out⟩
    have hd2 : decide ((127 : Int) < (c.toNat : Int)) = false := decide_eq_false (by omega)
    by_cases hk9' : k = 9
    · subst hk9'
      by_cases hc1 : 1 < c.toNat
      · have hd3 : decide ((1 : Int) < (c.toNat : Int)) = true := decide_eq_true (by omega)
        have HE : Hid (G = (0, [], 3)) := Lib.hid (by rw [HG.out, if_pos ⟨rfl, by omega⟩])
        have HM : Hid (M = 0) := Lib.hid (by rw [HMB.out, HE.out]; rfl)
        clear HG HLB HLS HBN HMB
        go_wp2_with fail
        refine bodyPost_ret (v := .tuple #[.int .i64 0, .int .i64 0, .int .i64 3]) (by simp [results, Tryz.results105, go_sem]) rfl ?_
        exact ⟨by rw [HE.out, HM.out]; rfl, HB.out⟩
      have hd3 : decide ((1 : Int) < (c.toNat : Int)) = false := decide_eq_false (by omega)
      by_cases hc0 : c.toNat = 0
      · have hb0 : ((c.toNat : Int) == 0) = true := by simpa using (show (c.toNat : Int) = 0 by omega)
        have HE : Hid (G = (0, [], 3)) := Lib.hid (by rw [HG.out, if_neg (by omega), if_pos (by omega), if_pos (by omega)])
        have HM : Hid (M = 0) := Lib.hid (by rw [HMB.out, HE.out]; rfl)
        clear HG HLB HLS HBN HMB
        go_wp2_with fail
        refine bodyPost_ret (v := .tuple #[.int .i64 0, .int .i64 0, .int .i64 3]) (by simp [results, Tryz.results105, go_sem]) rfl ?_
        exact ⟨by rw [HE.out, HM.out]; rfl, HB.out⟩
      have hb0 : ((c.toNat : Int) == 0) = false := by simpa using (show (c.toNat : Int) ≠ 0 by omega)
      have hcm : c.toNat % 128 = c.toNat := by omega
      have HE : Hid (G = (unzig (lowB l (9 + 1)), l.drop (9 + 1), 0)) := Lib.hid (by rw [HG.out, if_neg (by omega), if_pos (by omega), if_neg (by omega), HLS.out, hcm])
      have HM : Hid (M = 9 + 1) := Lib.hid (by rw [HMB.out, HE.out]; simp; omega)
      have hyb := HLB.out (.inr ⟨rfl, by omega⟩)
      clear HG HLB HLS HBN HMB hcm
      have HLW : Hid (∀ j, lowB l (j + 1) = lowB l j + (l.getD j 0).toNat % 128 * 2 ^ (7 * j)) := Lib.hid (fun _ => rfl)
      have HDB := Lib.hid (fun j (hj : j < l.length) => getD_bs l hj)
      generalize hY : lowB l (9 + 1) = Y at *
      have HJ0 : Hid (0 * 2 ^ (7 * (9 + 1)) + lowB l (9 + 1) = Y) := Lib.hid (by rw [hY]; omega)
      clear hY
      go_wp2_with fail
      go_loopw [6, 7] (fun vz vi wr => ∃ (j z : Nat), j ≤ 9 + 1 ∧ vi = .int .i64 ((j : Int) - 1) ∧ vz = .int .u64 (z : Int) ∧ Hid (z * 2 ^ (7 * j) + lowB l j = Y) ∧ Hid (Below w.heap.size w wr)) (fun _ vi _ => (intOf vi + 1).toNat)
      case atStart => exact ⟨9 + 1, 0, Nat.le_refl _, by first | rfl | (congr 1; omega), rfl, HJ0, HB⟩
      case round =>
        clear HJ0 HB
        obtain ⟨j, z, hj, rfl, rfl, HZ, HB⟩ := hrel
        by_cases hj0 : j = 0
        · subst hj0
          have hzy : z = Y := by have := HZ.out; simpa [lowB] using this
          subst hzy
          by_cases hev : z % 2 = 0
          · have hbe : ((z : Int) % 2 == 0) = true := by simpa using (show (z : Int) % 2 = 0 by omega)
            have hwh := wrap_half hyb
            have HU := Lib.hid (unzig_even hev)
            go_wp2_with fail
            refine bodyPost_ret (v := .tuple #[.int .i64 (unzig z), .int .i64 ((9 : Int) + 1), .int .i64 0]) (by rw [HU.out]; simp [results, Tryz.results105, go_sem]) rfl ?_
            exact ⟨by rw [HE.out, HM.out]; rfl, HB.out⟩
          · have hbe : ((z : Int) % 2 == 0) = false := by simpa using (show (z : Int) % 2 ≠ 0 by omega)
            have hwh := wrap_half hyb
            have HU := Lib.hid (unzig_odd hev)
            have hz2 : z / 2 < 9223372036854775808 := by omega
            go_wp2_with fail
            refine bodyPost_ret (v := .tuple #[.int .i64 (unzig z), .int .i64 ((9 : Int) + 1), .int .i64 0]) (by rw [HU.out]; simp [results, Tryz.results105, go_sem]) rfl ?_
            exact ⟨by rw [HE.out, HM.out]; rfl, HB.out⟩
        · obtain ⟨i, rfl⟩ : ∃ i, j = i + 1 := ⟨j - 1, by omega⟩
          have hij : (((i + 1 : Nat) : Int) - 1) = (i : Int) := by omega
          rw [hij]
          have hil : i < l.length := by omega
          have hib : i < (bs l).size := by rw [bs_size]; exact hil
          obtain ⟨d, hde, hdd⟩ := HDB.out i hil
          have hd := d.toNat_lt
          have hzz := HZ.out
          rw [HLW.out i, ← hdd, pow_step] at hzz
          have HZ2 : Hid ((z * 128 + d.toNat % 128) * 2 ^ (7 * i) + lowB l i = Y) := Lib.hid (by
            rw [← hzz, Nat.add_mul, Nat.mul_assoc]
            omega)
          have hp : 1 ≤ 2 ^ (7 * i) := Nat.one_le_two_pow
          have hzl : z * 128 + d.toNat % 128 < 18446744073709551616 := by
            have h1 := HZ2.out
            have h2 := Nat.le_mul_of_pos_right (z * 128 + d.toNat % 128) (show 0 < 2 ^ (7 * i) by omega)
            omega
          have hwz : IntKind.u64.wrap ((z : Int) * 128) = (z : Int) * 128 := by rw [IntKind.wrap_u64]; omega
          have hwy : IntKind.u64.wrap ((z : Int) * 128 + (d.toNat : Int) % 128) = ((z * 128 + d.toNat % 128 : Nat) : Int) := by rw [IntKind.wrap_u64]; omega
          have hge : decide ((0 : Int) ≤ (i : Int)) = true := decide_eq_true (by omega)
          have hi9 : i ≤ 100 := by omega
          clear hzz HZ hp hij
          go_wp2_with fail
          go_roundw
          case rel => exact ⟨i, z * 128 + d.toNat % 128, by omega, by go_num, by first | rfl | (have hd' : l[i]'hil = d := hde; rw [hd']; congr 1), HZ2, HB⟩
          case measure => simp [intOf] <;> omega
    have hkn : ((k : Int) == 9) = false := by simpa using (show (k : Int) ≠ 9 by omega)
    by_cases hk0 : 0 < k
    · have hd3 : decide ((0 : Int) < (k : Int)) = true := decide_eq_true (by omega)
      by_cases hc0 : c.toNat = 0
      · have hb0 : ((c.toNat : Int) == 0) = true := by simpa using (show (c.toNat : Int) = 0 by omega)
        have HE : Hid (G = (0, [], 3)) := Lib.hid (by rw [HG.out, if_neg (by omega), if_pos (by omega), if_pos (by omega)])
        have HM : Hid (M = 0) := Lib.hid (by rw [HMB.out, HE.out]; rfl)
        clear HG HLB HLS HBN HMB
        go_wp2_with fail
        refine bodyPost_ret (v := .tuple #[.int .i64 0, .int .i64 0, .int .i64 3]) (by simp [results, Tryz.results105, go_sem]) rfl ?_
        exact ⟨by rw [HE.out, HM.out]; rfl, HB.out⟩
      have hb0 : ((c.toNat : Int) == 0) = false := by simpa using (show (c.toNat : Int) ≠ 0 by omega)
      have hcm : c.toNat % 128 = c.toNat := by omega
      have HE : Hid (G = (unzig (lowB l (k + 1)), l.drop (k + 1), 0)) := Lib.hid (by rw [HG.out, if_neg (by omega), if_pos (by omega), if_neg (by omega), HLS.out, hcm])
      have HM : Hid (M = k + 1) := Lib.hid (by rw [HMB.out, HE.out]; simp; omega)
      have hyb := HLB.out (.inl (by omega))
      clear HG HLB HLS HBN HMB hcm
      have HLW : Hid (∀ j, lowB l (j + 1) = lowB l j + (l.getD j 0).toNat % 128 * 2 ^ (7 * j)) := Lib.hid (fun _ => rfl)
      have HDB := Lib.hid (fun j (hj : j < l.length) => getD_bs l hj)
      generalize hY : lowB l (k + 1) = Y at *
      have HJ0 : Hid (0 * 2 ^ (7 * (k + 1)) + lowB l (k + 1) = Y) := Lib.hid (by rw [hY]; omega)
      clear hY
      go_wp2_with fail
      go_loopw [6, 7] (fun vz vi wr => ∃ (j z : Nat), j ≤ k + 1 ∧ vi = .int .i64 ((j : Int) - 1) ∧ vz = .int .u64 (z : Int) ∧ Hid (z * 2 ^ (7 * j) + lowB l j = Y) ∧ Hid (Below w.heap.size w wr)) (fun _ vi _ => (intOf vi + 1).toNat)
      case atStart => exact ⟨k + 1, 0, Nat.le_refl _, by first | rfl | (congr 1; omega), rfl, HJ0, HB⟩
      case round =>
        clear HJ0 HB
        obtain ⟨j, z, hj, rfl, rfl, HZ, HB⟩ := hrel
        by_cases hj0 : j = 0
        · subst hj0
          have hzy : z = Y := by have := HZ.out; simpa [lowB] using this
          subst hzy
          by_cases hev : z % 2 = 0
          · have hbe : ((z : Int) % 2 == 0) = true := by simpa using (show (z : Int) % 2 = 0 by omega)
            have hwh := wrap_half hyb
            have HU := Lib.hid (unzig_even hev)
            go_wp2_with fail
            refine bodyPost_ret (v := .tuple #[.int .i64 (unzig z), .int .i64 ((k : Int) + 1), .int .i64 0]) (by rw [HU.out]; simp [results, Tryz.results105, go_sem]) rfl ?_
            exact ⟨by rw [HE.out, HM.out]; rfl, HB.out⟩
          · have hbe : ((z : Int) % 2 == 0) = false := by simpa using (show (z : Int) % 2 ≠ 0 by omega)
            have hwh := wrap_half hyb
            have HU := Lib.hid (unzig_odd hev)
            have hz2 : z / 2 < 9223372036854775808 := by omega
            go_wp2_with fail
            refine bodyPost_ret (v := .tuple #[.int .i64 (unzig z), .int .i64 ((k : Int) + 1), .int .i64 0]) (by rw [HU.out]; simp [results, Tryz.results105, go_sem]) rfl ?_
            exact ⟨by rw [HE.out, HM.out]; rfl, HB.out⟩
        · obtain ⟨i, rfl⟩ : ∃ i, j = i + 1 := ⟨j - 1, by omega⟩
          have hij : (((i + 1 : Nat) : Int) - 1) = (i : Int) := by omega
          rw [hij]
          have hil : i < l.length := by omega
          have hib : i < (bs l).size := by rw [bs_size]; exact hil
          obtain ⟨d, hde, hdd⟩ := HDB.out i hil
          have hd := d.toNat_lt
          have hzz := HZ.out
          rw [HLW.out i, ← hdd, pow_step] at hzz
          have HZ2 : Hid ((z * 128 + d.toNat % 128) * 2 ^ (7 * i) + lowB l i = Y) := Lib.hid (by
            rw [← hzz, Nat.add_mul, Nat.mul_assoc]
            omega)
          have hp : 1 ≤ 2 ^ (7 * i) := Nat.one_le_two_pow
          have hzl : z * 128 + d.toNat % 128 < 18446744073709551616 := by
            have h1 := HZ2.out
            have h2 := Nat.le_mul_of_pos_right (z * 128 + d.toNat % 128) (show 0 < 2 ^ (7 * i) by omega)
            omega
          have hwz : IntKind.u64.wrap ((z : Int) * 128) = (z : Int) * 128 := by rw [IntKind.wrap_u64]; omega
          have hwy : IntKind.u64.wrap ((z : Int) * 128 + (d.toNat : Int) % 128) = ((z * 128 + d.toNat % 128 : Nat) : Int) := by rw [IntKind.wrap_u64]; omega
          have hge : decide ((0 : Int) ≤ (i : Int)) = true := decide_eq_true (by omega)
          have hi9 : i ≤ 100 := by omega
          clear hzz HZ hp hij
          go_wp2_with fail
          go_roundw
          case rel => exact ⟨i, z * 128 + d.toNat % 128, by omega, by go_num, by first | rfl | (have hd' : l[i]'hil = d := hde; rw [hd']; congr 1), HZ2, HB⟩
          case measure => simp [intOf] <;> omega
    · have hd3 : decide ((0 : Int) < (k : Int)) = false := decide_eq_false (by omega)
      have hcm : c.toNat % 128 = c.toNat := by omega
      have HE : Hid (G = (unzig (lowB l (k + 1)), l.drop (k + 1), 0)) := Lib.hid (by rw [HG.out, if_neg (by omega), if_pos (by omega), if_neg (by omega), HLS.out, hcm])
      have HM : Hid (M = k + 1) := Lib.hid (by rw [HMB.out, HE.out]; simp; omega)
      have hyb := HLB.out (.inl (by omega))
      clear HG HLB HLS HBN HMB hcm
      have HLW : Hid (∀ j, lowB l (j + 1) = lowB l j + (l.getD j 0).toNat % 128 * 2 ^ (7 * j)) := Lib.hid (fun _ => rfl)
      have HDB := Lib.hid (fun j (hj : j < l.length) => getD_bs l hj)
      generalize hY : lowB l (k + 1) = Y at *
      have HJ0 : Hid (0 * 2 ^ (7 * (k + 1)) + lowB l (k + 1) = Y) := Lib.hid (by rw [hY]; omega)
      clear hY
      go_wp2_with fail
      go_loopw [6, 7] (fun vz vi wr => ∃ (j z : Nat), j ≤ k + 1 ∧ vi = .int .i64 ((j : Int) - 1) ∧ vz = .int .u64 (z : Int) ∧ Hid (z * 2 ^ (7 * j) + lowB l j = Y) ∧ Hid (Below w.heap.size w wr)) (fun _ vi _ => (intOf vi + 1).toNat)
      case atStart => exact ⟨k + 1, 0, Nat.le_refl _, by first | rfl | (congr 1; omega), rfl, HJ0, HB⟩
      case round =>
        clear HJ0 HB
        obtain ⟨j, z, hj, rfl, rfl, HZ, HB⟩ := hrel
        by_cases hj0 : j = 0
        · subst hj0
          have hzy : z = Y := by have := HZ.out; simpa [lowB] using this
          subst hzy
          by_cases hev : z % 2 = 0
          · have hbe : ((z : Int) % 2 == 0) = true := by simpa using (show (z : Int) % 2 = 0 by omega)
            have hwh := wrap_half hyb
            have HU := Lib.hid (unzig_even hev)
            go_wp2_with fail
            refine bodyPost_ret (v := .tuple #[.int .i64 (unzig z), .int .i64 ((k : Int) + 1), .int .i64 0]) (by rw [HU.out]; simp [results, Tryz.results105, go_sem]) rfl ?_
            exact ⟨by rw [HE.out, HM.out]; rfl, HB.out⟩
          · have hbe : ((z : Int) % 2 == 0) = false := by simpa using (show (z : Int) % 2 ≠ 0 by omega)
            have hwh := wrap_half hyb
            have HU := Lib.hid (unzig_odd hev)
            have hz2 : z / 2 < 9223372036854775808 := by omega
            go_wp2_with fail
            refine bodyPost_ret (v := .tuple #[.int .i64 (unzig z), .int .i64 ((k : Int) + 1), .int .i64 0]) (by rw [HU.out]; simp [results, Tryz.results105, go_sem]) rfl ?_
            exact ⟨by rw [HE.out, HM.out]; rfl, HB.out⟩
        · obtain ⟨i, rfl⟩ : ∃ i, j = i + 1 := ⟨j - 1, by omega⟩
          have hij : (((i + 1 : Nat) : Int) - 1) = (i : Int) := by omega
          rw [hij]
          have hil : i < l.length := by omega
          have hib : i < (bs l).size := by rw [bs_size]; exact hil
          obtain ⟨d, hde, hdd⟩ := HDB.out i hil
          have hd := d.toNat_lt
          have hzz := HZ.out
          rw [HLW.out i, ← hdd, pow_step] at hzz
          have HZ2 : Hid ((z * 128 + d.toNat % 128) * 2 ^ (7 * i) + lowB l i = Y) := Lib.hid (by
            rw [← hzz, Nat.add_mul, Nat.mul_assoc]
            omega)
          have hp : 1 ≤ 2 ^ (7 * i) := Nat.one_le_two_pow
          have hzl : z * 128 + d.toNat % 128 < 18446744073709551616 := by
            have h1 := HZ2.out
            have h2 := Nat.le_mul_of_pos_right (z * 128 + d.toNat % 128) (show 0 < 2 ^ (7 * i) by omega)
            omega
          have hwz : IntKind.u64.wrap ((z : Int) * 128) = (z : Int) * 128 := by rw [IntKind.wrap_u64]; omega
          have hwy : IntKind.u64.wrap ((z : Int) * 128 + (d.toNat : Int) % 128) = ((z * 128 + d.toNat % 128 : Nat) : Int) := by rw [IntKind.wrap_u64]; omega
          have hge : decide ((0 : Int) ≤ (i : Int)) = true := decide_eq_true (by omega)
          have hi9 : i ≤ 100 := by omega
          clear hzz HZ hp hij
          go_wp2_with fail
          go_roundw
          case rel => exact ⟨i, z * 128 + d.toNat % 128, by omega, by go_num, by first | rfl | (have hd' : l[i]'hil = d := hde; rw [hd']; congr 1), HZ2, HB⟩
          case measure => simp [intOf] <;> omega
end Go.Proofs.YtmplokdbbhlomaaGreatDoor

/-
  What complineref07.Reader's methods come to, over this seat's translation: contracts for callers.
-/
namespace Go.Proofs.YtmplokdbbhlomaaGreatDoor
open Go.RowKit

set_option maxHeartbeats 1600000 in
theorem rend_any (g : Nat) (r : Rd) (w : World) (h : RdAt w g r) : Calls Tryz.prog 61 #[.pointer (some ⟨g, 0, none⟩)] w fun e w' => e = .returned (.int .i64 (rEnd r)) ∧ w' = w := by
  have c0 := h.c0
  have c1 := h.c1
  obtain ⟨Q, HQ⟩ : ∃ Q, Hid (Q = rEnd r) := ⟨_, Lib.hid rfl⟩
  rw [← HQ.out]
  unfold rEnd at HQ
  by_cases h0 : r.e = 0
  case neg =>
    have hb : (r.e == 0) = false := by simpa using h0
    have HQ2 : Hid (Q = r.e) := Lib.hid (by rw [HQ.out, if_neg (by omega)])
    clear HQ h
    go_enter Tryz.func61, Tryz.ntmps61
    go_wp2_with fail
    go_ret
    rw [HQ2.out]
    exact ⟨rfl, rfl⟩
  have hb : (r.e == 0) = true := by simpa using h0
  by_cases h1 : r.s = []
  · have hs : (!r.s.isEmpty) = false := by rw [h1]; rfl
    have HQ2 : Hid (Q = r.e) := Lib.hid (by rw [HQ.out, if_neg (by simp [h1])])
    clear HQ h h1
    go_enter Tryz.func61, Tryz.ntmps61
    go_wp2_with fail
    go_ret
    rw [HQ2.out, h0]
    exact ⟨rfl, rfl⟩
  · have hs : (!r.s.isEmpty) = true := by simpa using h1
    have HQ2 : Hid (Q = 3) := Lib.hid (by rw [HQ.out, if_pos ⟨h0, h1⟩])
    clear HQ h h1
    go_enter Tryz.func61, Tryz.ntmps61
    go_wp2_with fail
    go_ret
    rw [HQ2.out]
    exact ⟨rfl, rfl⟩
set_option maxRecDepth 100000 in
set_option maxHeartbeats 1600000 in
theorem rnum_any (g : Nat) (r : Rd) (w : World) (h : RdAt w g r) : Calls Tryz.prog 89 #[.pointer (some ⟨g, 0, none⟩)] w fun e w' => e = .returned (.int .i64 (rNum r).1) ∧ RdAt w' g (rNum r).2 ∧ w.grownBy w' (some g) := by
  have HR := Lib.hid h
  have c0 := h.c0
  have c1 := h.c1
  have hlen := h.len
  have HGT := Lib.hid (rget_any r.s w (by omega))
  have hgl := getB_len r.s
  obtain ⟨T, HT⟩ : ∃ T, Hid (T = rNum r) := ⟨_, Lib.hid rfl⟩
  rw [← HT.out]
  by_cases h0 : r.e = 0
  case neg =>
    have hb : (r.e != 0) = true := by simpa using h0
    have HT2 : Hid (T = (0, r)) := Lib.hid (by rw [HT.out, rNum_bad h0])
    clear h HT
    go_enter Tryz.func89, Tryz.ntmps89
    go_wp2_with fail
    go_ret
    rw [HT2.out]
    exact ⟨rfl, HR.out, World.grownBy.refl _ _⟩
  have hb : (r.e != 0) = false := by simpa using h0
  have HG0 : Hid (T = if (getB r.s).2.2 = 0 then ((getB r.s).1, ⟨(getB r.s).2.1, 0⟩) else (0, ⟨r.s, (getB r.s).2.2⟩)) := Lib.hid (by
    rw [HT.out]
    unfold rNum rTake
    rw [if_pos h0]
    by_cases h : (getB r.s).2.2 = 0
    · rw [if_pos h, if_pos h]; rfl
    · rw [if_neg h, if_neg h])
  have HMD := Lib.hid (many_drop (s := r.s))
  have hml := many_le r.s
  clear HT
  generalize manyB r.s = M at *
  generalize getB r.s = G at *
  obtain ⟨n, rest, e'⟩ := G
  simp only at hgl HGT
  by_cases h1 : e' = 0
  case neg =>
    have hne : (e' != 0) = true := by simpa using h1
    have HT2 : Hid (T = (0, ⟨r.s, e'⟩)) := Lib.hid (by rw [HG0.out]; exact if_neg h1)
    clear HG0 h HMD
    go_enter Tryz.func89, Tryz.ntmps89
    go_wp2_with (go_at_call 105; refine HGT.out.mono ?_; rintro e w2 ⟨rfl, hb2⟩; have HR2 := Lib.hid (HR.out.below hb2); have HB2 := Lib.hid hb2; have k0 := HR2.out.c0; have k1 := HR2.out.c1; have kf := HR2.out.fz; clear hb2 c0 c1)
    go_ret
    rw [HT2.out]
    exact ⟨rfl, HR2.out.setE e', grown_twoS (grown_toS HB2.out g) (grown_setS _ _ _ _)⟩
  subst h1
  have HT2 : Hid (T = (n, ⟨rest, 0⟩)) := Lib.hid (by rw [HG0.out]; exact if_pos rfl)
  have hdr : r.s.drop M = rest := HMD.out rfl
  have hsz := bs_size r.s
  have hext : (bs r.s).extract M r.s.length = bs rest := by rw [← hdr, ByteArray.extract_mk, List.take_of_length_le (by rw [List.length_drop]; omega)]
  clear HG0 HMD hdr h
  go_enter Tryz.func89, Tryz.ntmps89
  go_wp2_with (go_at_call 105; refine HGT.out.mono ?_; rintro e w2 ⟨rfl, hb2⟩; have HR2 := Lib.hid (HR.out.below hb2); have HB2 := Lib.hid hb2; have k0 := HR2.out.c0; have k1 := HR2.out.c1; have kf := HR2.out.fz; clear hb2 c0 c1)
  go_ret
  rw [HT2.out]
  have hse := HR2.out.setS (s := rest) (by omega)
  rw [h0] at hse
  exact ⟨rfl, hse, grown_twoS (grown_toS HB2.out g) (grown_setS _ _ _ _)⟩
/-- Upto, by Num. -/
theorem rUpto_num (most : Int) (r : Rd) : rUpto most r = if (rNum r).2.e = 0 then (if uptoB most (rNum r).1 then rNum r else (0, ⟨r.s, 3⟩)) else (0, (rNum r).2) := by
  unfold rUpto rNum rTake
  by_cases h0 : r.e = 0
  · rw [if_pos h0, if_pos h0]
    by_cases h1 : (getB r.s).2.2 = 0
    · rw [if_pos h1, if_pos h1]
      by_cases h2 : uptoB most (getB r.s).1 = true
      · rw [if_pos h2]
        simp [h2]
      · rw [if_neg h2]
        simp [h2]
    · rw [if_neg h1, if_neg h1]
      simp [h1]
  · rw [if_neg h0, if_neg h0]
    simp [h0]
theorem rNum_off {r : Rd} (h : (rNum r).2.e ≠ 0) : (rNum r).1 = 0 := by
  unfold rNum rTake at h ⊢
  by_cases h0 : r.e = 0
  · rw [if_pos h0] at h ⊢
    by_cases h1 : (getB r.s).2.2 = 0
    · rw [if_pos h1] at h ⊢
      simp at h
    · rw [if_neg h1] at h ⊢
  · rw [if_neg h0] at h ⊢
/-- Text, by Upto. -/
theorem rText_upto (most : Int) (r : Rd) : rText most r = if (rUpto most r).2.e = 0 then (if ((rUpto most r).2.s.length : Int) < (rUpto most r).1 then ([], ⟨r.s, 4⟩) else ((rUpto most r).2.s.take (rUpto most r).1.toNat, ⟨(rUpto most r).2.s.drop (rUpto most r).1.toNat, (rUpto most r).2.e⟩)) else ([], (rUpto most r).2) := by
  unfold rText rUpto rTake
  by_cases h0 : r.e = 0
  · rw [if_pos h0]
    by_cases h1 : (getB r.s).2.2 = 0
    · rw [if_pos h1]
      by_cases h2 : uptoB most (getB r.s).1 = true
      · rw [if_pos h2]
        simp
      · rw [if_neg h2]
        simp
    · rw [if_neg h1]
      simp [h1]
  · rw [if_neg h0]
    simp [h0]
end Go.Proofs.YtmplokdbbhlomaaGreatDoor

/-
  The document's table of letters, in plain Lean: what it comes to is what the bits come to.
-/
namespace Go.Proofs.YtmplokdbbhlomaaGreatDoor
open Go.RowKit

def lett (j : Nat) : Nat := if j = 0 then 105 else if j = 1 then 109 else if j = 2 then 111 else if j = 3 then 115 else if j = 4 then 113 else 112
/-- What a kind has, in order. -/
def jsOf (k : Int) : List Nat := six.filter (hasB k)
def lettersOf (k : Int) : List UInt8 := if isK k then (jsOf k).map (fun j => (lett j).toUInt8) else [63]
theorem jsOf_lt {k : Int} {j : Nat} (h : j ∈ jsOf k) : j < 6 := by
  have h6 : j ∈ six := (List.mem_filter.1 h).1
  simp [six] at h6
  omega
theorem jsOf_len (k : Int) : (jsOf k).length ≤ 6 := List.length_filter_le _ _
theorem lett_toNat (j : Nat) : (lett j).toUInt8.toNat = lett j := toUInt8_nat (by
  unfold lett
  repeat' split
  all_goals decide)
theorem letters_len {k : Int} (h : isK k = true) : (lettersOf k).length = (jsOf k).length := by
  unfold lettersOf
  rw [if_pos h, List.length_map]
theorem letters_at {k : Int} (h : isK k = true) {i : Nat} (hi : i < (jsOf k).length) : ∃ c, (bs (lettersOf k))[i]'(by rw [bs_size, letters_len h]; exact hi) = c ∧ c.toNat = lett ((jsOf k)[i]) := by
  refine ⟨_, rfl, ?_⟩
  have e : lettersOf k = (jsOf k).map (fun j => (lett j).toUInt8) := by unfold lettersOf; rw [if_pos h]
  have e2 : (bs (lettersOf k))[i]'(by rw [bs_size, letters_len h]; exact hi) = (lettersOf k)[i]'(by rw [letters_len h]; exact hi) := rfl
  rw [e2]
  simp only [e, List.getElem_map]
  exact lett_toNat _
/-- The table's word for no kind. -/
theorem letters_none {k : Int} : (bs (lettersOf k) == bs [63]) = !isK k := by
  by_cases h : isK k = true
  · rw [h]
    rcases isK_cases h with rfl | rfl | rfl | rfl | rfl | rfl | rfl | rfl | rfl | rfl
    all_goals decide
  · have h2 : isK k = false := by simpa using h
    unfold lettersOf
    rw [h2, if_neg (by decide)]
    decide
/-- What is left of a command, without what its kind has. -/
def restOf (c : Cm) : Cm := (jsOf c.k).foldl (fun d j => d.set j 0) { c with k := 0 }
theorem rest_right {c : Cm} (h : isK c.k = true) : decide (restOf c = zeroC) = rightC c := by
  obtain ⟨k, i, m, o, s, q, p⟩ := c
  unfold rightC
  simp only at h
  rw [show isK (Cm.mk k i m o s q p).k = true from h]
  have hd : ∀ a b c d e f g : Int, decide (Cm.mk a b c d e f g = zeroC) = (a == 0 && (b == 0 && (c == 0 && (d == 0 && (e == 0 && (f == 0 && g == 0)))))) := by
    intro a b c d e f g
    unfold zeroC
    simp only [Cm.mk.injEq, Bool.decide_and]
    rfl
  rcases isK_cases h with rfl | rfl | rfl | rfl | rfl | rfl | rfl | rfl | rfl | rfl
  all_goals (simp [restOf, jsOf, six, hasB, Cm.set, hd, List.range_succ, Cm.get] <;> try rfl)
theorem rest_step (c0 : Cm) (js : List Nat) {i : Nat} (hi : i < js.length) : (js.take (i + 1)).foldl (fun d j => Cm.set d j 0) c0 = ((js.take i).foldl (fun d j => Cm.set d j 0) c0).set js[i] 0 := by
  rw [List.take_succ_eq_append_getElem hi, List.foldl_append]
  rfl
/-- The bytes of what a kind has. -/
def putJ (c : Cm) (js : List Nat) : List UInt8 := js.flatMap fun j => putN (c.get j)
theorem putJ_step (c : Cm) (js : List Nat) {i : Nat} (hi : i < js.length) : putJ c (js.take (i + 1)) = putJ c (js.take i) ++ putN (c.get js[i]) := by
  unfold putJ
  rw [List.take_succ_eq_append_getElem hi, List.flatMap_append]
  simp
theorem putJ_all (c : Cm) : putN c.k ++ putJ c (jsOf c.k) = putC c := by
  unfold putC putJ putF jsOf
  congr 1
  generalize six = l
  induction l with
  | nil => rfl
  | cons j l ih =>
    rw [List.flatMap_cons, ← ih]
    by_cases h : hasB c.k j = true
    · rw [List.filter_cons_of_pos h, List.flatMap_cons, if_pos h]
    · rw [List.filter_cons_of_neg h, if_neg h]
      rfl
theorem putJ_len {c : Cm} (hc : CmOk c) : ∀ js : List Nat, (putJ c js).length ≤ 10 * js.length
  | [] => by simp [putJ]
  | j :: js => by
    have h1 := putJ_len hc js
    have h2 := putN_len (get_ok hc j)
    unfold putJ at h1 ⊢
    rw [List.flatMap_cons, List.length_append, List.length_cons]
    omega
/-- Values read in order. -/
def rdJ : List Nat → Cm → Rd → Cm × Rd
  | [], c, r => (c, r)
  | j :: js, c, r => rdJ js (c.set j (rNum r).1) (rNum r).2
theorem rdJ_all (k : Int) : ∀ (l : List Nat) (c : Cm) (r : Rd), c.k = k → rdJ (l.filter (hasB k)) c r = rdF l c r
  | [], _, _, _ => rfl
  | j :: l, c, r, h => by
    unfold rdF
    rw [h]
    by_cases hb : hasB k j = true
    · rw [List.filter_cons_of_pos hb, if_pos hb]
      exact rdJ_all k l _ _ (by rw [set_k]; exact h)
    · rw [List.filter_cons_of_neg hb, if_neg hb]
      exact rdJ_all k l _ _ h
theorem rdJ_snoc : ∀ (js : List Nat) (c : Cm) (r : Rd) (j : Nat), rdJ (js ++ [j]) c r = ((rdJ js c r).1.set j (rNum (rdJ js c r).2).1, (rNum (rdJ js c r).2).2)
  | [], _, _, _ => rfl
  | i :: js, c, r, j => by
    show rdJ (js ++ [j]) _ _ = _
    rw [rdJ_snoc js]
    rfl
theorem rdJ_step (c : Cm) (r : Rd) (js : List Nat) {i : Nat} (hi : i < js.length) : rdJ (js.take (i + 1)) c r = ((rdJ (js.take i) c r).1.set js[i] (rNum (rdJ (js.take i) c r).2).1, (rNum (rdJ (js.take i) c r).2).2) := by
  rw [List.take_succ_eq_append_getElem hi]
  exact rdJ_snoc _ _ _ _
end Go.Proofs.YtmplokdbbhlomaaGreatDoor
