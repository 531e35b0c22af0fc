/-
  What complineref23.Out, Drawn, Same and the law's own few come to, over this seat's translation: contracts for callers.
-/
import Derived.Test.YtglpnpjjjihghaaFl8
namespace Go.Proofs.Ytglpnpjjjihghaa
open Go.RowKit

theorem contains_taken (m : Int) {l : List Int} {k : Nat} (hk : k < l.length) (h : ¬ l[k] = m) (h' : (l.take k).contains m = false) : (l.take (k + 1)).contains m = false := by
  rw [contains_snoc m hk, h', Bool.false_or, beq_eq_false_iff_ne]
  exact h
set_option maxHeartbeats 800000 in
theorem out23_any (os : List Int) (m : Int) (A : Option Addr) (c : Nat) (w : World) (hs : Seg w w.heap.size A (os.map (Value.int .i64))) (hl : os.length ≤ 100000) :
    Calls Try.prog 19 #[.slice A os.length c, .int .i64 m] w fun e w' => e = .returned (.bool (os.contains m)) ∧ w = w' := by
  have HS := Lib.hid hs
  obtain ⟨oc, hoc⟩ : ∃ b, b = os.contains m := ⟨_, rfl⟩
  rw [← hoc]
  have HOC := Lib.hid hoc
  clear hs hoc
  go_enter Try.func19, Try.ntmps19
  go_wp2_with fail
  go_loop [5] (fun i => ∃ k : Nat, k ≤ os.length ∧ i = .int .i64 k ∧ Hid ((os.take k).contains m = false)) (fun i => os.length - (intOf i).toNat)
  case atStart => exact ⟨0, Nat.zero_le _, rfl, rfl⟩
  case round =>
    obtain ⟨k, hk, rfl, HC⟩ := hrel
    by_cases hlt : k < os.length
    · obtain ⟨b, o, rfl, hb, d0⟩ := int_at HS.out hlt
      have hk0 : (0 : Int) ≤ (k : Int) := by omega
      have hkb : (k : Int) < (os.length : Int) := by omega
      by_cases hm : os[k] = m
      · have HT : Hid (true = oc) := Lib.hid (by
          rw [HOC.out]
          have : m ∈ os := hm ▸ List.getElem_mem hlt
          exact (List.contains_iff_mem.2 this).symm)
        have hmb : (os[k] == m) = true := by rw [hm]; exact beq_self_eq_true m
        go_wp2_with fail
        go_ret
        exact ⟨ret_bool HT.out, rfl⟩
      · have hmb : (os[k] == m) = false := by rw [beq_eq_false_iff_ne]; exact hm
        have HC1 := Lib.hid (contains_taken m hlt hm HC.out)
        go_wp2_with fail
        go_round
        case rel => exact ⟨k + 1, by omega, by go_num, HC1⟩
        case measure => simp [intOf]; omega
    · obtain rfl : k = os.length := by omega
      have HT : Hid (false = oc) := Lib.hid (by
        rw [HOC.out]
        have := HC.out
        rw [List.take_length] at this
        exact this.symm)
      go_wp2_with fail
      go_ret
      exact ⟨ret_bool HT.out, rfl⟩
/-- What is drawn of a source, as the loop adds it. -/
def drwS (l : List Dw) (k m : Int) : Int := l.foldl (fun s x => if x.k = k ∧ x.m = m then wrap64 (s + x.n) else s) 0
theorem drwS_snoc (k m : Int) {l : List Dw} {j : Nat} (hj : j < l.length) : drwS (l.take (j + 1)) k m = if l[j].k = k ∧ l[j].m = m then wrap64 (drwS (l.take j) k m + l[j].n) else drwS (l.take j) k m := by
  unfold drwS
  rw [List.take_succ_eq_append_getElem hj, List.foldl_append]
  rfl
set_option maxHeartbeats 1600000 in
theorem drawn_any (l : List Dw) (n : Nat) (k m : Int) (A : Option Addr) (c : Nat) (w : World) (hs : Seg w w.heap.size A (dwRows l)) (hl : l.length ≤ 100000) (hn : n ≤ l.length) :
    Calls Try.prog 20 #[.slice A l.length c, .int .i64 n, .agg #[.int .i64 k, .int .i64 m]] w fun e w' => e = .returned (.int .i64 (drwS (l.take n) k m)) ∧ Below w.heap.size w w' := by
  have HB0 : Hid (Below w.heap.size w (w.alloc (.cells #[.int .i64 k, .int .i64 m] 45))) := Lib.hid ((Below.refl _ _).alloc (Nat.le_refl _) _)
  have HS := Lib.hid hs
  have e0 : (w.alloc (.cells #[.int .i64 k, .int .i64 m] 45)).cell? ⟨w.heap.size, 0, none⟩ = some (.int .i64 k) := by rw [cell_new _ _ _ _ rfl]; rfl
  have e1 : (w.alloc (.cells #[.int .i64 k, .int .i64 m] 45)).cell? ⟨w.heap.size, 1, none⟩ = some (.int .i64 m) := by rw [cell_new _ _ _ _ rfl]; rfl
  clear hs
  go_enter Try.func20, Try.ntmps20
  go_wp2_with fail
  generalize w.alloc (.cells #[.int .i64 k, .int .i64 m] 45) = w0 at *
  go_loopw [7, 8] (fun s i wr => ∃ j : Nat, j ≤ n ∧ i = .int .i64 j ∧ s = .int .i64 (drwS (l.take j) k m) ∧ Hid (∃ d, w0.drewN d = wr)) (fun _ i _ => n - (intOf i).toNat)
  case atStart => exact ⟨0, Nat.zero_le _, rfl, rfl, 0, rfl⟩
  case round =>
    obtain ⟨j, hj, rfl, rfl, HW⟩ := hrel
    obtain ⟨d, rfl⟩ := HW.out
    by_cases hlt : j < n
    · have hjl : j < l.length := by omega
      obtain ⟨b, o, rfl, hb, d0, d1, d2⟩ := dw_at (HS.out.below HB0.out) hjl
      have HSN := Lib.hid (drwS_snoc k m hjl)
      have hk0 : (0 : Int) ≤ (j : Int) := by omega
      have hkb : (j : Int) < (l.length : Int) := by omega
      have hjn : (j : Int) < (n : Int) := by omega
      generalize drwS (l.take j) k m = s at *
      generalize l[j].k = xk at *
      generalize l[j].m = xm at *
      generalize l[j].n = xn at *
      by_cases h1 : xk = k
      · by_cases h2 : xm = m
        · subst h1 h2
          rw [if_pos ⟨rfl, rfl⟩] at HSN
          go_wp2_with fail
          go_quiet (fail)
          go_wp2_with fail
          go_roundw
          case rel => exact ⟨j + 1, by omega, by go_num, by rw [HSN.out], ⟨d + nq, rfl⟩⟩
          case measure => simp [intOf]; omega
        · rw [if_neg (fun h => h2 h.2)] at HSN
          have h2b : (xm == m) = false := by rw [beq_eq_false_iff_ne]; exact h2
          go_wp2_with fail
          go_quiet (fail)
          go_wp2_with fail
          go_roundw
          case rel => exact ⟨j + 1, by omega, by go_num, by rw [HSN.out], ⟨d + nq, rfl⟩⟩
          case measure => simp [intOf]; omega
      · rw [if_neg (fun h => h1 h.1)] at HSN
        have h1b : (xk == k) = false := by rw [beq_eq_false_iff_ne]; exact h1
        go_wp2_with fail
        go_quiet (fail)
        go_wp2_with fail
        go_roundw
        case rel => exact ⟨j + 1, by omega, by go_num, by rw [HSN.out], ⟨d + nq, rfl⟩⟩
        case measure => simp [intOf]; omega
    · obtain rfl : j = n := by omega
      go_wp2_with fail
      go_ret
      exact ⟨rfl, below_drewN HB0.out d⟩
set_option maxHeartbeats 400000 in
theorem dsame_any (L : List Dw) (A B : Option Addr) (c d : Nat) (w : World) (h1 : Seg w w.heap.size A (dwRows L)) (h2 : Seg w w.heap.size B (dwRows L)) (hl : L.length ≤ 1000000) :
    Calls Try.prog 26 #[.slice A L.length c, .slice B L.length d] w fun e w' => e = .returned (.bool true) ∧ Below w.heap.size w w' := by
  have H1 := Lib.hid h1
  have H2 := Lib.hid h2
  clear h1 h2
  go_enter Try.func26, Try.ntmps26
  go_wp2_with fail
  go_loopw [5] (fun i wr => ∃ k : Nat, k ≤ L.length ∧ i = .int .i64 k ∧ Hid (∃ n, w.drewN n = wr)) (fun i _ => L.length - (intOf i).toNat)
  case atStart => exact ⟨0, Nat.zero_le _, rfl, ⟨0, rfl⟩⟩
  case round =>
    obtain ⟨k, hk, rfl, HW⟩ := hrel
    obtain ⟨n, rfl⟩ := HW.out
    by_cases hlt : k < L.length
    · obtain ⟨b, o, rfl, hb, d0, d1, d2⟩ := dw_at H1.out hlt
      obtain ⟨b', o', rfl, hb', e0, e1, e2⟩ := dw_at H2.out hlt
      have hkb : (k : Int) < (L.length : Int) := by omega
      have hk0 : (0 : Int) ≤ (k : Int) := by omega
      go_wp2_with fail
      go_quiet (fail)
      go_wp2_with fail
      go_roundw
      case rel => exact ⟨k + 1, by omega, by go_num, ⟨n + nq, rfl⟩⟩
      case measure => simp [intOf]; omega
    · go_wp2_with fail
      go_ret
      exact ⟨rfl, below_drewN (Below.refl _ _) n⟩
end Go.Proofs.Ytglpnpjjjihghaa
