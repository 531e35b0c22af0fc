/-
  What complineref37.Counts and Many, complinelaw37.asset and row, census.Find come to, over this seat's translation: contracts for callers.
-/
import Derived.Test.YtgkidjjijgegmaaCnGrow
import Derived.Deep.QuietTactic
import Derived.BigQuiet
namespace Go.Proofs.Ytgkidjjijgegmaa
open Go.RowKit

def cntB (k : Int) : Bool := k == 5 || k == 6 || (decide (12 ≤ k) && decide (k ≤ 15)) || k == 19
theorem cntB_plJ (k : Int) : cntB k = (plJ k).isSome := by
  unfold cntB plJ
  by_cases h5 : k = 5
  · simp [h5]
  by_cases h6 : k = 6
  · simp [h6]
  by_cases h13 : k = 13
  · simp [h13]
  by_cases h19 : k = 19
  · simp [h19]
  by_cases h12 : k = 12
  · simp [h12]
  by_cases h14 : k = 14
  · simp [h14]
  by_cases h15 : k = 15
  · simp [h15]
  simp [h5, h6, h13, h19, h12, h14, h15]
  omega
set_option maxHeartbeats 1600000 in
theorem counts_any (x : Ev) (w : World) :
    Calls Try.prog 10 #[x.val] w fun e w' => e = .returned (.bool (plJ x.k).isSome) ∧ Below w.heap.size w w' := by
  rw [← cntB_plJ]
  obtain ⟨k, m, a, n, o⟩ := x
  unfold Ev.val
  simp only
  have HB : Hid (Below w.heap.size w (w.alloc (.cells #[.int .i64 k, .int .i64 m, .int .i64 a, .int .i64 n, .int .i64 o] 34))) := Lib.hid ((Below.refl _ _).alloc (Nat.le_refl _) _)
  have HX := Lib.hid fun j => cell_new w #[.int .i64 k, .int .i64 m, .int .i64 a, .int .i64 n, .int .i64 o] 34 (b := w.heap.size) j rfl
  obtain ⟨rb, HRB⟩ : ∃ r, Hid (r = cntB k) := ⟨_, Lib.hid rfl⟩
  rw [← HRB.out]
  unfold cntB at HRB
  cases b5 : k == 5 with
  | true =>
    go_enter Try.func10, Try.ntmps10
    go_wp2_with fail
    go_ret
    refine ⟨?_, HB.out⟩
    rw [HRB.out, b5]
    simp
  | false =>
    cases b6 : k == 6 with
    | true =>
      go_enter Try.func10, Try.ntmps10
      go_wp2_with fail
      go_ret
      refine ⟨?_, HB.out⟩
      rw [HRB.out, b5, b6]
      simp
    | false =>
      cases b12 : decide (12 ≤ k) with
      | true =>
        cases b15 : decide (k ≤ 15) with
        | true =>
          go_enter Try.func10, Try.ntmps10
          go_wp2_with fail
          go_ret
          refine ⟨?_, HB.out⟩
          rw [HRB.out, b5, b6, b12, b15]
          simp
        | false =>
          cases b19 : k == 19 with
          | true =>
            go_enter Try.func10, Try.ntmps10
            go_wp2_with fail
            go_ret
            refine ⟨?_, HB.out⟩
            rw [HRB.out, b5, b6, b12, b15, b19]
            simp
          | false =>
            go_enter Try.func10, Try.ntmps10
            go_wp2_with fail
            go_ret
            refine ⟨?_, HB.out⟩
            rw [HRB.out, b5, b6, b12, b15, b19]
            simp
      | false =>
        cases b19 : k == 19 with
        | true =>
          go_enter Try.func10, Try.ntmps10
          go_wp2_with fail
          go_ret
          refine ⟨?_, HB.out⟩
          rw [HRB.out, b5, b6, b12, b19]
          simp
        | false =>
          go_enter Try.func10, Try.ntmps10
          go_wp2_with fail
          go_ret
          refine ⟨?_, HB.out⟩
          rw [HRB.out, b5, b6, b12, b19]
          simp
set_option maxHeartbeats 1600000 in
theorem asset_any (x : Ev) (w : World) :
    Calls Try.prog 12 #[x.val] w fun e w' => e = .returned (.int .i64 (sideE x).2) ∧ Below w.heap.size w w' := by
  obtain ⟨k, m, a, n, o⟩ := x
  unfold Ev.val sideE
  simp only
  have HB : Hid (Below w.heap.size w (w.alloc (.cells #[.int .i64 k, .int .i64 m, .int .i64 a, .int .i64 n, .int .i64 o] 34))) := Lib.hid ((Below.refl _ _).alloc (Nat.le_refl _) _)
  by_cases h15 : k = 15
  · have b15 : (k == 15) = true := by simpa using h15
    rw [if_pos (.inr h15)]
    clear h15
    go_enter Try.func12, Try.ntmps12
    go_wp2_with fail
    go_ret
    exact ⟨rfl, HB.out⟩
  by_cases h19 : k = 19
  · have b15 : (k == 15) = false := by simpa using h15
    have b19 : (k == 19) = true := by simpa using h19
    rw [if_pos (.inl h19)]
    clear h15 h19
    go_enter Try.func12, Try.ntmps12
    go_wp2_with fail
    go_ret
    exact ⟨rfl, HB.out⟩
  have b15 : (k == 15) = false := by simpa using h15
  have b19 : (k == 19) = false := by simpa using h19
  rw [if_neg (by omega)]
  clear h15 h19
  go_enter Try.func12, Try.ntmps12
  go_wp2_with fail
  go_ret
  exact ⟨rfl, HB.out⟩
/-- Five numbers, as an array. -/
def rowV (l : Nat → Int) : Value := .agg #[.int .i64 (l 0), .int .i64 (l 1), .int .i64 (l 2), .int .i64 (l 3), .int .i64 (l 4)]
def Tl.at (t : Tl) (j : Nat) : Int := t.row[j]?.getD 0
set_option maxHeartbeats 800000 in
theorem row_any (t : Tl) (w : World) :
    Calls Try.prog 14 #[t.val] w fun e w' => e = .returned (rowV t.at) ∧ Below w.heap.size w w' := by
  obtain ⟨⟨q1, q2⟩, a, b, c, d, e⟩ := t
  unfold Tl.val
  simp only
  go_enter Try.func14, Try.ntmps14
  go_wp2_with fail
  have HB : Hid (Below w.heap.size w ((w.alloc (.cells #[.int .i64 q1, .int .i64 q2, .int .i64 a, .int .i64 b, .int .i64 c, .int .i64 d, .int .i64 e] 42)).alloc (.cells #[.int .i64 a, .int .i64 b, .int .i64 c, .int .i64 d, .int .i64 e] 35))) := Lib.hid (((Below.refl _ _).alloc (Nat.le_refl _) _).alloc (by simp) _)
  have HX := Lib.hid fun j => cell_new (w.alloc (.cells #[.int .i64 q1, .int .i64 q2, .int .i64 a, .int .i64 b, .int .i64 c, .int .i64 d, .int .i64 e] 42)) #[.int .i64 a, .int .i64 b, .int .i64 c, .int .i64 d, .int .i64 e] 35 (b := w.heap.size + 1) j (by simp)
  generalize (w.alloc (.cells #[.int .i64 q1, .int .i64 q2, .int .i64 a, .int .i64 b, .int .i64 c, .int .i64 d, .int .i64 e] 42)).alloc (.cells #[.int .i64 a, .int .i64 b, .int .i64 c, .int .i64 d, .int .i64 e] 35) = w1 at *
  have x0 : w1.cell? ⟨w.heap.size + 1, 0, none⟩ = some (.int .i64 a) := HX.out 0
  have x1 : w1.cell? ⟨w.heap.size + 1, 1, none⟩ = some (.int .i64 b) := HX.out 1
  have x2 : w1.cell? ⟨w.heap.size + 1, 2, none⟩ = some (.int .i64 c) := HX.out 2
  have x3 : w1.cell? ⟨w.heap.size + 1, 3, none⟩ = some (.int .i64 d) := HX.out 3
  have x4 : w1.cell? ⟨w.heap.size + 1, 4, none⟩ = some (.int .i64 e) := HX.out 4
  refine bodyPost_ret (v := .agg #[.int .i64 a, .int .i64 b, .int .i64 c, .int .i64 d, .int .i64 e]) (by simp [results, Try.results14, go_sem, x0, x1, x2, x3, x4]) rfl ?_
  exact ⟨rfl, HB.out⟩
set_option maxHeartbeats 1600000 in
theorem many_any (l : List Ev) (A : Option Addr) (c : Nat) (j : Int) (w : World) (hs : Seg w w.heap.size A (evRows l)) (hl : l.length ≤ 1000000) :
    Calls Try.prog 13 #[.slice A l.length c, .int .i64 j] w fun e w' => e = .returned (.int .i64 (manyE l j)) ∧ w = w' := by
  have HS := Lib.hid hs
  clear hs
  go_enter Try.func13, Try.ntmps13
  go_wp2_with fail
  go_loop [5, 6, 7] (fun n i _ => ∃ k : Nat, k ≤ l.length ∧ i = .int .i64 k ∧ n = .int .i64 (manyE (l.take k) j)) (fun _ i _ => l.length - (intOf i).toNat)
  case atStart => exact ⟨0, Nat.zero_le _, rfl, rfl⟩
  case round =>
    obtain ⟨k, hk, rfl, rfl⟩ := hrel
    by_cases hlt : k < l.length
    · obtain ⟨b, o, rfl, hb, e0, _⟩ := ev_at HS.out hlt
      have HM := Lib.hid (many_snoc hlt j)
      have hbd := many_bd (l.take k) j
      have hlk : ((l.take k).length : Int) ≤ 1000000 := by rw [List.length_take]; omega
      have hw : IntKind.i64.wrap (manyE (l.take k) j + 1) = manyE (l.take k) j + 1 := IntWalk.i64_in _ (by omega)
      obtain ⟨xk, hx⟩ : ∃ x, x = l[k].k := ⟨_, rfl⟩
      rw [← hx] at e0 HM
      clear hx
      by_cases hlo : xk < 1
      · have hd1 : decide (xk < 1) = true := decide_eq_true hlo
        have hkc : kc xk = 0 := by unfold kc; rw [if_pos (by omega)]
        rw [hkc] at HM
        by_cases hj : (0 : Int) = j
        · have hjb : ((0 : Int) == j) = true := by simpa using hj
          rw [if_pos hj] at HM
          clear hkc hlo
          go_wp2_with fail
          go_round
          case rel => exact ⟨k + 1, by omega, by go_num, by rw [HM.out]⟩
          case measure => simp [intOf]; omega
        · have hjb : ((0 : Int) == j) = false := by simpa using hj
          rw [if_neg hj] at HM
          clear hkc hlo
          go_wp2_with fail
          go_round
          case rel => exact ⟨k + 1, by omega, by go_num, by rw [HM.out, Int.add_zero]⟩
          case measure => simp [intOf]; omega
      have hd1 : decide (xk < 1) = false := decide_eq_false hlo
      by_cases hhi : 19 < xk
      · have hd2 : decide (19 < xk) = true := decide_eq_true hhi
        have hkc : kc xk = 0 := by unfold kc; rw [if_pos (by omega)]
        rw [hkc] at HM
        by_cases hj : (0 : Int) = j
        · have hjb : ((0 : Int) == j) = true := by simpa using hj
          rw [if_pos hj] at HM
          clear hkc hlo hhi
          go_wp2_with fail
          go_round
          case rel => exact ⟨k + 1, by omega, by go_num, by rw [HM.out]⟩
          case measure => simp [intOf]; omega
        · have hjb : ((0 : Int) == j) = false := by simpa using hj
          rw [if_neg hj] at HM
          clear hkc hlo hhi
          go_wp2_with fail
          go_round
          case rel => exact ⟨k + 1, by omega, by go_num, by rw [HM.out, Int.add_zero]⟩
          case measure => simp [intOf]; omega
      have hd2 : decide (19 < xk) = false := decide_eq_false hhi
      have hkc : kc xk = xk := by unfold kc; rw [if_neg (by omega)]
      rw [hkc] at HM
      by_cases hj : xk = j
      · have hjb : (xk == j) = true := by simpa using hj
        rw [if_pos hj] at HM
        clear hkc hlo hhi hj
        go_wp2_with fail
        go_round
        case rel => exact ⟨k + 1, by omega, by go_num, by rw [HM.out]⟩
        case measure => simp [intOf]; omega
      · have hjb : (xk == j) = false := by simpa using hj
        rw [if_neg hj] at HM
        clear hkc hlo hhi hj
        go_wp2_with fail
        go_round
        case rel => exact ⟨k + 1, by omega, by go_num, by rw [HM.out, Int.add_zero]⟩
        case measure => simp [intOf]; omega
    · obtain rfl : k = l.length := by omega
      rw [List.take_length]
      go_wp2_with fail
      go_ret
      exact ⟨rfl, rfl⟩
end Go.Proofs.Ytgkidjjijgegmaa
