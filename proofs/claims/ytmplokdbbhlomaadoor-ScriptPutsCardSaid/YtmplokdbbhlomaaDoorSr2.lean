/-
  What complineref07.Get comes to, over this seat's translation: a contract for callers. (Printed by gen_sr2.py.)
-/
import Derived.Test.YtmplokdbbhlomaaDoorSr1
namespace Go.Proofs.YtmplokdbbhlomaaDoor
open Go.RowKit

/-- What the first k bytes spell. -/
def lowB (s : List UInt8) : Nat → Nat
  | 0 => 0
  | k + 1 => lowB s k + (s.getD k 0).toNat % 128 * 2 ^ (7 * k)
theorem getB_skip (s : List UInt8) : ∀ k, k ≤ 9 → k ≤ s.length → (∀ i, i < k → 128 ≤ (s.getD i 0).toNat) → getB s = getFrom (s.drop k) k (lowB s k)
  | 0, _, _, _ => rfl
  | k + 1, h9, hl, hb => by
    rw [getB_skip s k (by omega) (by omega) (fun i hi => hb i (by omega))]
    have hk : k < s.length := by omega
    have e : s.getD k 0 = s[k] := by simp [List.getD, hk]
    have hc := hb k (by omega)
    rw [e] at hc
    rw [getFrom_step hk (by omega), if_neg (by omega), if_neg (by omega)]
    rw [show lowB s (k + 1) = lowB s k + (s.getD k 0).toNat % 128 * 2 ^ (7 * k) from rfl, e]
theorem low_lt (s : List UInt8) : ∀ k, lowB s k < 2 ^ (7 * k)
  | 0 => by simp [lowB]
  | k + 1 => by
    unfold lowB
    exact pow_up (low_lt s k)
theorem low_mono (s : List UInt8) (k : Nat) : ∀ n, lowB s k ≤ lowB s (k + n)
  | 0 => Nat.le_refl _
  | n + 1 => Nat.le_trans (low_mono s k n) (by show lowB s (k + n) ≤ lowB s (k + n) + _; omega)
/-- How many bytes a number has. -/
def manyB (s : List UInt8) : Nat := if (getB s).2.2 = 0 then s.length - (getB s).2.1.length else 0
theorem many_drop {s : List UInt8} (h : (getB s).2.2 = 0) : s.drop (manyB s) = (getB s).2.1 := by
  have hg := (get_got (s := s) (r := (getB s).2.1) (n := (getB s).1) (by rw [← h])).1
  have hl := congrArg List.length hg
  rw [List.length_append] at hl
  unfold manyB
  rw [if_pos h]
  generalize (getB s).2.1 = r at *
  generalize putN (getB s).1 = q at *
  have e : s.length - r.length = q.length := by omega
  rw [e, hg]
  simp
theorem many_le (s : List UInt8) : manyB s ≤ s.length := by
  unfold manyB
  split <;> omega
theorem get_at {s : List UInt8} {k : Nat} (hk : k < s.length) (h9 : k ≤ 9) (hb : ∀ i, i < k → 128 ≤ (s.getD i 0).toNat) : getB s = if k = 9 ∧ 1 < (s.getD k 0).toNat then (0, [], 3) else if (s.getD k 0).toNat < 128 then (if (s.getD k 0).toNat = 0 ∧ 0 < k then (0, [], 3) else (unzig (lowB s k + (s.getD k 0).toNat * 2 ^ (7 * k)), s.drop (k + 1), 0)) else getFrom (s.drop (k + 1)) (k + 1) (lowB s k + (s.getD k 0).toNat % 128 * 2 ^ (7 * k)) := by
  have e : s.getD k 0 = s[k] := by simp [List.getD, hk]
  rw [getB_skip s k h9 (by omega) hb, e]
  exact getFrom_step hk (by omega) _
theorem getD_bs (l : List UInt8) {k : Nat} (hk : k < l.length) : ∃ c, (bs l)[k]'(by rw [bs_size]; exact hk) = c ∧ c = l.getD k 0 := ⟨_, rfl, by
  show l[k] = _
  simp [List.getD, hk]⟩
theorem low_bound {s : List UInt8} {k : Nat} (h : k < 9 ∨ k = 9 ∧ (s.getD k 0).toNat ≤ 1) : lowB s (k + 1) < 18446744073709551616 := by
  rcases h with h | ⟨rfl, h⟩
  · have h1 := low_lt s (k + 1)
    have h2 : (2 : Nat) ^ (7 * (k + 1)) ≤ 2 ^ 63 := Nat.pow_le_pow_right (by decide) (by omega)
    have : (2 : Nat) ^ 63 = 9223372036854775808 := by decide
    omega
  · have h1 := low_lt s 9
    show lowB s 9 + (s.getD 9 0).toNat % 128 * 2 ^ (7 * 9) < _
    have e : (2 : Nat) ^ (7 * 9) = 9223372036854775808 := by decide
    rw [e] at h1 ⊢
    omega
set_option maxRecDepth 100000 in
set_option maxHeartbeats 16000000 in
theorem rget_any (l : List UInt8) (w : World) (hl : l.length ≤ 1000000000) : Calls Tryd.prog 66 #[.string (bs l)] w fun e w' => e = .returned (.tuple #[.int .i64 (getB l).1, .int .i64 (manyB l : Nat), .int .i64 (getB l).2.2]) ∧ Below w.heap.size w w' := by
  have hsz := bs_size l
  obtain ⟨G, HGE⟩ : ∃ G, Hid (G = getB l) := ⟨_, Lib.hid rfl⟩
  obtain ⟨M, HME⟩ : ∃ M, Hid (M = manyB l) := ⟨_, Lib.hid rfl⟩
  have HMB : Hid (M = if G.2.2 = 0 then l.length - G.2.1.length else 0) := Lib.hid (by rw [HME.out, HGE.out]; rfl)
  have HAT := Lib.hid (fun k (hk : k < l.length) (h9 : k ≤ 9) hb => get_at (s := l) hk h9 hb)
  have HSH : Hid (l.length ≤ 9 → (∀ i, i < l.length → 128 ≤ (l.getD i 0).toNat) → G = (0, [], 4)) := Lib.hid fun h9 hb => by
    rw [HGE.out, getB_skip l l.length h9 (Nat.le_refl _) hb]
    exact getFrom_short (Nat.le_refl _) (by omega)
  rw [← HGE.out, ← HME.out]
  rw [← HGE.out] at HAT
  clear HGE HME
  go_enter Tryd.func66, Tryd.ntmps66
  go_wp2_with fail
  go_loopw [5] (fun i wr => ∃ k : Nat, k ≤ 9 ∧ k ≤ l.length ∧ i = .int .i64 k ∧ Hid (∀ i, i < k → 128 ≤ (l.getD i 0).toNat) ∧ Hid (Below w.heap.size w wr)) (fun i _ => 9 - (intOf i).toNat)
  case atStart => exact ⟨0, by omega, Nat.zero_le _, rfl, fun i hi => by omega, Below.refl _ _⟩
  case round =>
    obtain ⟨k, hk9, hkl, rfl, HBY, HB⟩ := hrel
    by_cases hend : k = l.length
    · subst hend
      have hd1 : decide ((l.length : Int) < (l.length : Int)) = false := decide_eq_false (by omega)
      have he1 : ((l.length : Int) == (l.length : Int)) = true := by simp
      have HE : Hid (G = (0, [], 4)) := Lib.hid (HSH.out hk9 HBY.out)
      have HM : Hid (M = 0) := Lib.hid (by rw [HMB.out, HE.out]; rfl)
      clear HSH HAT HMB
      go_wp2_with fail
      refine bodyPost_ret (v := .tuple #[.int .i64 0, .int .i64 0, .int .i64 4]) (by simp [results, Tryd.results66, go_sem]) rfl ?_
      exact ⟨by rw [HE.out, HM.out]; rfl, HB.out⟩
    have hlt : k < l.length := by omega
    have hd1 : decide ((k : Int) < (l.length : Int)) = true := decide_eq_true (by omega)
    have he1 : ((k : Int) == (l.length : Int)) = false := by simpa using (show (k : Int) ≠ (l.length : Int) by omega)
    have HG := Lib.hid (HAT.out k hlt hk9 HBY.out)
    have HLB := Lib.hid (fun h => low_bound (s := l) (k := k) h)
    have HLS : Hid (lowB l (k + 1) = lowB l k + (l.getD k 0).toNat % 128 * 2 ^ (7 * k)) := Lib.hid rfl
    have hkb : k < (bs l).size := by rw [bs_size]; exact hlt
    obtain ⟨c, hce, hcd⟩ := getD_bs l hlt
    have HBN : Hid (128 ≤ c.toNat → ∀ i, i < k + 1 → 128 ≤ (l.getD i 0).toNat) := Lib.hid fun h i hi => by
      by_cases e : i = k
      · rw [e, ← hcd]; exact h
      · exact HBY.out i (by omega)
    rw [← hcd] at HG HLB HLS
    have hc := c.toNat_lt
    have hw1 : IntKind.i64.wrap ((k : Int) + 1) = (k : Int) + 1 := IntWalk.i64_in _ (by omega)
    clear hcd HSH HAT HBY hend
    by_cases h127 : 127 < c.toNat
    · have hd2 : decide ((127 : Int) < (c.toNat : Int)) = true := decide_eq_true (by omega)
      by_cases h9 : k < 9
      · have hd3 : decide ((k : Int) < 9) = true := decide_eq_true (by omega)
        have HB2 : Hid (∀ i, i < k + 1 → 128 ≤ (l.getD i 0).toNat) := Lib.hid (HBN.out (by omega))
        clear HG HLB HLS HBN HMB
        go_wp2_with fail
        go_roundw
        case rel => exact ⟨k + 1, by omega, by omega, by go_num, HB2, HB⟩
        case measure => simp [intOf]; omega
      · obtain rfl : k = 9 := by omega
        have hd3 : decide ((1 : Int) < (c.toNat : Int)) = true := decide_eq_true (by omega)
        have HE : Hid (G = (0, [], 3)) := Lib.hid (by rw [HG.out, if_pos ⟨rfl, by omega⟩])
        have HM : Hid (M = 0) := Lib.hid (by rw [HMB.out, HE.out]; rfl)
        clear HG HLB HLS HBN HMB
        go_wp2_with fail
        refine bodyPost_ret (v := .tuple #[.int .i64 0, .int .i64 0, .int .i64 3]) (by simp [results, Tryd.results66, go_sem]) rfl ?_
        exact ⟨by rw [HE.out, HM.out]; rfl, HB.out⟩
    have hd2 : decide ((127 : Int) < (c.toNat : Int)) = false := decide_eq_false (by omega)
    by_cases hk9' : k = 9
    · subst hk9'
      by_cases hc1 : 1 < c.toNat
      · have hd3 : decide ((1 : Int) < (c.toNat : Int)) = true := decide_eq_true (by omega)
        have HE : Hid (G = (0, [], 3)) := Lib.hid (by rw [HG.out, if_pos ⟨rfl, by omega⟩])
        have HM : Hid (M = 0) := Lib.hid (by rw [HMB.out, HE.out]; rfl)
        clear HG HLB HLS HBN HMB
        go_wp2_with fail
        refine bodyPost_ret (v := .tuple #[.int .i64 0, .int .i64 0, .int .i64 3]) (by simp [results, Tryd.results66, go_sem]) rfl ?_
        exact ⟨by rw [HE.out, HM.out]; rfl, HB.out⟩
      have hd3 : decide ((1 : Int) < (c.toNat : Int)) = false := decide_eq_false (by omega)
      by_cases hc0 : c.toNat = 0
      · have hb0 : ((c.toNat : Int) == 0) = true := by simpa using (show (c.toNat : Int) = 0 by omega)
        have HE : Hid (G = (0, [], 3)) := Lib.hid (by rw [HG.out, if_neg (by omega), if_pos (by omega), if_pos (by omega)])
        have HM : Hid (M = 0) := Lib.hid (by rw [HMB.out, HE.out]; rfl)
        clear HG HLB HLS HBN HMB
        go_wp2_with fail
        refine bodyPost_ret (v := .tuple #[.int .i64 0, .int .i64 0, .int .i64 3]) (by simp [results, Tryd.results66, go_sem]) rfl ?_
        exact ⟨by rw [HE.out, HM.out]; rfl, HB.out⟩
      have hb0 : ((c.toNat : Int) == 0) = false := by simpa using (show (c.toNat : Int) ≠ 0 by omega)
      have hcm : c.toNat % 128 = c.toNat := by omega
      have HE : Hid (G = (unzig (lowB l (9 + 1)), l.drop (9 + 1), 0)) := Lib.hid (by rw [HG.out, if_neg (by omega), if_pos (by omega), if_neg (by omega), HLS.out, hcm])
      have HM : Hid (M = 9 + 1) := Lib.hid (by rw [HMB.out, HE.out]; simp; omega)
      have hyb := HLB.out (.inr ⟨rfl, by omega⟩)
      clear HG HLB HLS HBN HMB hcm
      have HLW : Hid (∀ j, lowB l (j + 1) = lowB l j + (l.getD j 0).toNat % 128 * 2 ^ (7 * j)) := Lib.hid (fun _ => rfl)
      have HDB := Lib.hid (fun j (hj : j < l.length) => getD_bs l hj)
      generalize hY : lowB l (9 + 1) = Y at *
      have HJ0 : Hid (0 * 2 ^ (7 * (9 + 1)) + lowB l (9 + 1) = Y) := Lib.hid (by rw [hY]; omega)
      clear hY
      go_wp2_with fail
      go_loopw [6, 7] (fun vz vi wr => ∃ (j z : Nat), j ≤ 9 + 1 ∧ vi = .int .i64 ((j : Int) - 1) ∧ vz = .int .u64 (z : Int) ∧ Hid (z * 2 ^ (7 * j) + lowB l j = Y) ∧ Hid (Below w.heap.size w wr)) (fun _ vi _ => (intOf vi + 1).toNat)
      case atStart => exact ⟨9 + 1, 0, Nat.le_refl _, by first | rfl | (congr 1; omega), rfl, HJ0, HB⟩
      case round =>
        clear HJ0 HB
        obtain ⟨j, z, hj, rfl, rfl, HZ, HB⟩ := hrel
        by_cases hj0 : j = 0
        · subst hj0
          have hzy : z = Y := by have := HZ.out; simpa [lowB] using this
          subst hzy
          by_cases hev : z % 2 = 0
          · have hbe : ((z : Int) % 2 == 0) = true := by simpa using (show (z : Int) % 2 = 0 by omega)
            have hwh := wrap_half hyb
            have HU := Lib.hid (unzig_even hev)
            go_wp2_with fail
            refine bodyPost_ret (v := .tuple #[.int .i64 (unzig z), .int .i64 ((9 : Int) + 1), .int .i64 0]) (by rw [HU.out]; simp [results, Tryd.results66, go_sem]) rfl ?_
            exact ⟨by rw [HE.out, HM.out]; rfl, HB.out⟩
          · have hbe : ((z : Int) % 2 == 0) = false := by simpa using (show (z : Int) % 2 ≠ 0 by omega)
            have hwh := wrap_half hyb
            have HU := Lib.hid (unzig_odd hev)
            have hz2 : z / 2 < 9223372036854775808 := by omega
            go_wp2_with fail
            refine bodyPost_ret (v := .tuple #[.int .i64 (unzig z), .int .i64 ((9 : Int) + 1), .int .i64 0]) (by rw [HU.out]; simp [results, Tryd.results66, go_sem]) rfl ?_
            exact ⟨by rw [HE.out, HM.out]; rfl, HB.out⟩
        · obtain ⟨i, rfl⟩ : ∃ i, j = i + 1 := ⟨j - 1, by omega⟩
          have hij : (((i + 1 : Nat) : Int) - 1) = (i : Int) := by omega
          rw [hij]
          have hil : i < l.length := by omega
          have hib : i < (bs l).size := by rw [bs_size]; exact hil
          obtain ⟨d, hde, hdd⟩ := HDB.out i hil
          have hd := d.toNat_lt
          have hzz := HZ.out
          rw [HLW.out i, ← hdd, pow_step] at hzz
          have HZ2 : Hid ((z * 128 + d.toNat % 128) * 2 ^ (7 * i) + lowB l i = Y) := Lib.hid (by
            rw [← hzz, Nat.add_mul, Nat.mul_assoc]
            omega)
          have hp : 1 ≤ 2 ^ (7 * i) := Nat.one_le_two_pow
          have hzl : z * 128 + d.toNat % 128 < 18446744073709551616 := by
            have h1 := HZ2.out
            have h2 := Nat.le_mul_of_pos_right (z * 128 + d.toNat % 128) (show 0 < 2 ^ (7 * i) by omega)
            omega
          have hwz : IntKind.u64.wrap ((z : Int) * 128) = (z : Int) * 128 := by rw [IntKind.wrap_u64]; omega
          have hwy : IntKind.u64.wrap ((z : Int) * 128 + (d.toNat : Int) % 128) = ((z * 128 + d.toNat % 128 : Nat) : Int) := by rw [IntKind.wrap_u64]; omega
          have hge : decide ((0 : Int) ≤ (i : Int)) = true := decide_eq_true (by omega)
          have hi9 : i ≤ 100 := by omega
          clear hzz HZ hp hij
          go_wp2_with fail
          go_roundw
          case rel => exact ⟨i, z * 128 + d.toNat % 128, by omega, by go_num, by first | rfl | (have hd' : l[i]'hil = d := hde; rw [hd']; congr 1), HZ2, HB⟩
          case measure => simp [intOf] <;> omega
    have hkn : ((k : Int) == 9) = false := by simpa using (show (k : Int) ≠ 9 by omega)
    by_cases hk0 : 0 < k
    · have hd3 : decide ((0 : Int) < (k : Int)) = true := decide_eq_true (by omega)
      by_cases hc0 : c.toNat = 0
      · have hb0 : ((c.toNat : Int) == 0) = true := by simpa using (show (c.toNat : Int) = 0 by omega)
        have HE : Hid (G = (0, [], 3)) := Lib.hid (by rw [HG.out, if_neg (by omega), if_pos (by omega), if_pos (by omega)])
        have HM : Hid (M = 0) := Lib.hid (by rw [HMB.out, HE.out]; rfl)
        clear HG HLB HLS HBN HMB
        go_wp2_with fail
        refine bodyPost_ret (v := .tuple #[.int .i64 0, .int .i64 0, .int .i64 3]) (by simp [results, Tryd.results66, go_sem]) rfl ?_
        exact ⟨by rw [HE.out, HM.out]; rfl, HB.out⟩
      have hb0 : ((c.toNat : Int) == 0) = false := by simpa using (show (c.toNat : Int) ≠ 0 by omega)
      have hcm : c.toNat % 128 = c.toNat := by omega
      have HE : Hid (G = (unzig (lowB l (k + 1)), l.drop (k + 1), 0)) := Lib.hid (by rw [HG.out, if_neg (by omega), if_pos (by omega), if_neg (by omega), HLS.out, hcm])
      have HM : Hid (M = k + 1) := Lib.hid (by rw [HMB.out, HE.out]; simp; omega)
      have hyb := HLB.out (.inl (by omega))
      clear HG HLB HLS HBN HMB hcm
      have HLW : Hid (∀ j, lowB l (j + 1) = lowB l j + (l.getD j 0).toNat % 128 * 2 ^ (7 * j)) := Lib.hid (fun _ => rfl)
      have HDB := Lib.hid (fun j (hj : j < l.length) => getD_bs l hj)
      generalize hY : lowB l (k + 1) = Y at *
      have HJ0 : Hid (0 * 2 ^ (7 * (k + 1)) + lowB l (k + 1) = Y) := Lib.hid (by rw [hY]; omega)
      clear hY
      go_wp2_with fail
      go_loopw [6, 7] (fun vz vi wr => ∃ (j z : Nat), j ≤ k + 1 ∧ vi = .int .i64 ((j : Int) - 1) ∧ vz = .int .u64 (z : Int) ∧ Hid (z * 2 ^ (7 * j) + lowB l j = Y) ∧ Hid (Below w.heap.size w wr)) (fun _ vi _ => (intOf vi + 1).toNat)
      case atStart => exact ⟨k + 1, 0, Nat.le_refl _, by first | rfl | (congr 1; omega), rfl, HJ0, HB⟩
      case round =>
        clear HJ0 HB
        obtain ⟨j, z, hj, rfl, rfl, HZ, HB⟩ := hrel
        by_cases hj0 : j = 0
        · subst hj0
          have hzy : z = Y := by have := HZ.out; simpa [lowB] using this
          subst hzy
          by_cases hev : z % 2 = 0
          · have hbe : ((z : Int) % 2 == 0) = true := by simpa using (show (z : Int) % 2 = 0 by omega)
            have hwh := wrap_half hyb
            have HU := Lib.hid (unzig_even hev)
            go_wp2_with fail
            refine bodyPost_ret (v := .tuple #[.int .i64 (unzig z), .int .i64 ((k : Int) + 1), .int .i64 0]) (by rw [HU.out]; simp [results, Tryd.results66, go_sem]) rfl ?_
            exact ⟨by rw [HE.out, HM.out]; rfl, HB.out⟩
          · have hbe : ((z : Int) % 2 == 0) = false := by simpa using (show (z : Int) % 2 ≠ 0 by omega)
            have hwh := wrap_half hyb
            have HU := Lib.hid (unzig_odd hev)
            have hz2 : z / 2 < 9223372036854775808 := by omega
            go_wp2_with fail
            refine bodyPost_ret (v := .tuple #[.int .i64 (unzig z), .int .i64 ((k : Int) + 1), .int .i64 0]) (by rw [HU.out]; simp [results, Tryd.results66, go_sem]) rfl ?_
            exact ⟨by rw [HE.out, HM.out]; rfl, HB.out⟩
        · obtain ⟨i, rfl⟩ : ∃ i, j = i + 1 := ⟨j - 1, by omega⟩
          have hij : (((i + 1 : Nat) : Int) - 1) = (i : Int) := by omega
          rw [hij]
          have hil : i < l.length := by omega
          have hib : i < (bs l).size := by rw [bs_size]; exact hil
          obtain ⟨d, hde, hdd⟩ := HDB.out i hil
          have hd := d.toNat_lt
          have hzz := HZ.out
          rw [HLW.out i, ← hdd, pow_step] at hzz
          have HZ2 : Hid ((z * 128 + d.toNat % 128) * 2 ^ (7 * i) + lowB l i = Y) := Lib.hid (by
            rw [← hzz, Nat.add_mul, Nat.mul_assoc]
            omega)
          have hp : 1 ≤ 2 ^ (7 * i) := Nat.one_le_two_pow
          have hzl : z * 128 + d.toNat % 128 < 18446744073709551616 := by
            have h1 := HZ2.out
            have h2 := Nat.le_mul_of_pos_right (z * 128 + d.toNat % 128) (show 0 < 2 ^ (7 * i) by omega)
            omega
          have hwz : IntKind.u64.wrap ((z : Int) * 128) = (z : Int) * 128 := by rw [IntKind.wrap_u64]; omega
          have hwy : IntKind.u64.wrap ((z : Int) * 128 + (d.toNat : Int) % 128) = ((z * 128 + d.toNat % 128 : Nat) : Int) := by rw [IntKind.wrap_u64]; omega
          have hge : decide ((0 : Int) ≤ (i : Int)) = true := decide_eq_true (by omega)
          have hi9 : i ≤ 100 := by omega
          clear hzz HZ hp hij
          go_wp2_with fail
          go_roundw
          case rel => exact ⟨i, z * 128 + d.toNat % 128, by omega, by go_num, by first | rfl | (have hd' : l[i]'hil = d := hde; rw [hd']; congr 1), HZ2, HB⟩
          case measure => simp [intOf] <;> omega
    · have hd3 : decide ((0 : Int) < (k : Int)) = false := decide_eq_false (by omega)
      have hcm : c.toNat % 128 = c.toNat := by omega
      have HE : Hid (G = (unzig (lowB l (k + 1)), l.drop (k + 1), 0)) := Lib.hid (by rw [HG.out, if_neg (by omega), if_pos (by omega), if_neg (by omega), HLS.out, hcm])
      have HM : Hid (M = k + 1) := Lib.hid (by rw [HMB.out, HE.out]; simp; omega)
      have hyb := HLB.out (.inl (by omega))
      clear HG HLB HLS HBN HMB hcm
      have HLW : Hid (∀ j, lowB l (j + 1) = lowB l j + (l.getD j 0).toNat % 128 * 2 ^ (7 * j)) := Lib.hid (fun _ => rfl)
      have HDB := Lib.hid (fun j (hj : j < l.length) => getD_bs l hj)
      generalize hY : lowB l (k + 1) = Y at *
      have HJ0 : Hid (0 * 2 ^ (7 * (k + 1)) + lowB l (k + 1) = Y) := Lib.hid (by rw [hY]; omega)
      clear hY
      go_wp2_with fail
      go_loopw [6, 7] (fun vz vi wr => ∃ (j z : Nat), j ≤ k + 1 ∧ vi = .int .i64 ((j : Int) - 1) ∧ vz = .int .u64 (z : Int) ∧ Hid (z * 2 ^ (7 * j) + lowB l j = Y) ∧ Hid (Below w.heap.size w wr)) (fun _ vi _ => (intOf vi + 1).toNat)
      case atStart => exact ⟨k + 1, 0, Nat.le_refl _, by first | rfl | (congr 1; omega), rfl, HJ0, HB⟩
      case round =>
        clear HJ0 HB
        obtain ⟨j, z, hj, rfl, rfl, HZ, HB⟩ := hrel
        by_cases hj0 : j = 0
        · subst hj0
          have hzy : z = Y := by have := HZ.out; simpa [lowB] using this
          subst hzy
          by_cases hev : z % 2 = 0
          · have hbe : ((z : Int) % 2 == 0) = true := by simpa using (show (z : Int) % 2 = 0 by omega)
            have hwh := wrap_half hyb
            have HU := Lib.hid (unzig_even hev)
            go_wp2_with fail
            refine bodyPost_ret (v := .tuple #[.int .i64 (unzig z), .int .i64 ((k : Int) + 1), .int .i64 0]) (by rw [HU.out]; simp [results, Tryd.results66, go_sem]) rfl ?_
            exact ⟨by rw [HE.out, HM.out]; rfl, HB.out⟩
          · have hbe : ((z : Int) % 2 == 0) = false := by simpa using (show (z : Int) % 2 ≠ 0 by omega)
            have hwh := wrap_half hyb
            have HU := Lib.hid (unzig_odd hev)
            have hz2 : z / 2 < 9223372036854775808 := by omega
            go_wp2_with fail
            refine bodyPost_ret (v := .tuple #[.int .i64 (unzig z), .int .i64 ((k : Int) + 1), .int .i64 0]) (by rw [HU.out]; simp [results, Tryd.results66, go_sem]) rfl ?_
            exact ⟨by rw [HE.out, HM.out]; rfl, HB.out⟩
        · obtain ⟨i, rfl⟩ : ∃ i, j = i + 1 := ⟨j - 1, by omega⟩
          have hij : (((i + 1 : Nat) : Int) - 1) = (i : Int) := by omega
          rw [hij]
          have hil : i < l.length := by omega
          have hib : i < (bs l).size := by rw [bs_size]; exact hil
          obtain ⟨d, hde, hdd⟩ := HDB.out i hil
          have hd := d.toNat_lt
          have hzz := HZ.out
          rw [HLW.out i, ← hdd, pow_step] at hzz
          have HZ2 : Hid ((z * 128 + d.toNat % 128) * 2 ^ (7 * i) + lowB l i = Y) := Lib.hid (by
            rw [← hzz, Nat.add_mul, Nat.mul_assoc]
            omega)
          have hp : 1 ≤ 2 ^ (7 * i) := Nat.one_le_two_pow
          have hzl : z * 128 + d.toNat % 128 < 18446744073709551616 := by
            have h1 := HZ2.out
            have h2 := Nat.le_mul_of_pos_right (z * 128 + d.toNat % 128) (show 0 < 2 ^ (7 * i) by omega)
            omega
          have hwz : IntKind.u64.wrap ((z : Int) * 128) = (z : Int) * 128 := by rw [IntKind.wrap_u64]; omega
          have hwy : IntKind.u64.wrap ((z : Int) * 128 + (d.toNat : Int) % 128) = ((z * 128 + d.toNat % 128 : Nat) : Int) := by rw [IntKind.wrap_u64]; omega
          have hge : decide ((0 : Int) ≤ (i : Int)) = true := decide_eq_true (by omega)
          have hi9 : i ≤ 100 := by omega
          clear hzz HZ hp hij
          go_wp2_with fail
          go_roundw
          case rel => exact ⟨i, z * 128 + d.toNat % 128, by omega, by go_num, by first | rfl | (have hd' : l[i]'hil = d := hde; rw [hd']; congr 1), HZ2, HB⟩
          case measure => simp [intOf] <;> omega
end Go.Proofs.YtmplokdbbhlomaaDoor
