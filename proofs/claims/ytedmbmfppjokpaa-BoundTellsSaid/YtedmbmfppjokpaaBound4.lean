/-
  What the document's Step and Draws, and what Few, come to, over this seat's translation: contracts for callers.
-/
import Derived.Test.YtedmbmfppjokpaaConf5
namespace Go.Proofs.Ytedmbmfppjokpaa
open Go.RowKit

set_option maxHeartbeats 400000 in
theorem in_any (n a b : Int) (w : World) : Calls Try.prog 18 #[.int .i64 n, .int .i64 a, .int .i64 b] w fun e w' => e = .returned (.bool (inB n a b)) ∧ w = w' := by
  have HB := Lib.hid (show inB n a b = (decide (a ≤ n) && decide (n ≤ b)) from rfl)
  by_cases h1 : a ≤ n
  · by_cases h2 : n ≤ b
    · go_enter Try.func18, Try.ntmps18
      go_wp2_with fail
      go_ret
      exact ⟨ret_bool (by rw [HB.out]; simp [h1, h2]), rfl⟩
    · go_enter Try.func18, Try.ntmps18
      go_wp2_with fail
      go_ret
      exact ⟨ret_bool (by rw [HB.out, decide_eq_false (show ¬ n ≤ b by omega)]; simp), rfl⟩
  · go_enter Try.func18, Try.ntmps18
    go_wp2_with fail
    go_ret
    exact ⟨ret_bool (by rw [HB.out, decide_eq_false (show ¬ a ≤ n by omega)]; simp), rfl⟩
def fewB (x : Cfg) : Bool := decide (x.ms.length ≤ 20) && (decide (x.ss.length ≤ 20) && decide (x.cy.length ≤ 20))
set_option maxRecDepth 100000 in
set_option maxHeartbeats 800000 in
theorem few_any (x : Cfg) (w : World) (hm : x.ms.length ≤ maxLen) (hs : x.ss.length ≤ maxLen) (hc : x.cy.length ≤ maxLen) :
    Calls Try.prog 4 #[x.val] w fun e w' => e = .returned (.bool (fewB x)) ∧ Below w.heap.size w w' := by
  have HB0 := Lib.hid (box_below w x)
  have HF := Lib.hid (show fewB x = (decide (x.ms.length ≤ 20) && (decide (x.ss.length ≤ 20) && decide (x.cy.length ≤ 20))) from rfl)
  unfold maxLen at hm hs hc
  generalize fewB x = fb at *
  unfold Cfg.val at *
  by_cases h1 : x.ms.length ≤ 20
  · by_cases h2 : x.ss.length ≤ 20
    · by_cases h3 : x.cy.length ≤ 20
      · have HG : Hid (true = fb) := by show _ = _; rw [HF.out]; simp [h1, h2, h3]
        clear HF
        go_enter Try.func4, Try.ntmps4
        go_wp2_with fail
        go_ret
        exact ⟨ret_bool (by rw [← HG.out]; simp; omega), HB0.out⟩
      · have HG : Hid (false = fb) := by show _ = _; rw [HF.out]; simp [h3]
        clear HF
        go_enter Try.func4, Try.ntmps4
        go_wp2_with fail
        go_ret
        exact ⟨ret_bool (by rw [← HG.out]; simp; omega), HB0.out⟩
    · have HG : Hid (false = fb) := by show _ = _; rw [HF.out]; simp [h2]
      clear HF
      go_enter Try.func4, Try.ntmps4
      go_wp2_with fail
      go_ret
      exact ⟨ret_bool HG.out, HB0.out⟩
  · have HG : Hid (false = fb) := by show _ = _; rw [HF.out]; simp [h1]
    clear HF
    go_enter Try.func4, Try.ntmps4
    go_wp2_with fail
    go_ret
    exact ⟨ret_bool HG.out, HB0.out⟩
set_option maxRecDepth 100000 in
set_option maxHeartbeats 800000 in
theorem rstep_any (x : Cfg) (w : World) (hm : x.ms.length ≤ 20) (hs : x.ss.length ≤ 20) (hb0 : 0 ≤ x.bids) (hb1 : x.bids ≤ 1000) :
    Calls Try.prog 12 #[x.val] w fun e w' => e = .returned (.int .i64 (2 * x.bids + 12 * (((x.ms.length + 1) * (x.ss.length + 1) : Nat) : Int))) ∧ Below w.heap.size w w' := by
  have HB0 := Lib.hid (box_below w x)
  obtain ⟨c0, c1, _, _, _, _, _, c7, hlt⟩ := cf_new w x
  have HC0 := Lib.hid c0
  have HC1 := Lib.hid c1
  clear hlt
  unfold Cfg.val at *
  go_enter Try.func12, Try.ntmps12
  go_wp2_with fail
  generalize (w.alloc (.cells #[.slice x.Am x.ms.length x.cm, .slice x.As x.ss.length x.cs, .slice x.Ac x.cy.length x.cc, .int .i64 x.line, .int .i64 x.capi, .int .i64 x.lead, .int .i64 x.tr, .int .i64 x.bids] 26)) = W0 at *
  go_loop [3, 4, 5] (fun n m _ => ∃ k : Nat, k ≤ x.ms.length + 1 ∧ m = .int .i64 k ∧ n = .int .i64 (2 * x.bids + 12 * ((k * (x.ss.length + 1) : Nat) : Int))) (fun _ m _ => x.ms.length + 1 - (intOf m).toNat)
  case atStart => exact ⟨0, by omega, rfl, by simp⟩
  case round =>
    obtain ⟨k, hk, rfl, rfl⟩ := hrel
    have hq : k * (x.ss.length + 1) ≤ 21 * 21 := Nat.mul_le_mul (by omega) (by omega)
    have HQ := Lib.hid (show (k + 1) * (x.ss.length + 1) = k * (x.ss.length + 1) + (x.ss.length + 1) from Nat.succ_mul _ _)
    generalize hqe : k * (x.ss.length + 1) = q at *
    have HE := Lib.hid hqe
    clear hqe
    by_cases hlt : k ≤ x.ms.length
    · go_wp2_with fail
      go_loop [3, 5] (fun n a => ∃ j : Nat, j ≤ x.ss.length + 1 ∧ a = .int .i64 j ∧ n = .int .i64 (2 * x.bids + 12 * ((q + j : Nat) : Int))) (fun _ a => x.ss.length + 1 - (intOf a).toNat)
      case atStart => exact ⟨0, by omega, rfl, by simp⟩
      case round =>
        obtain ⟨j, hj, rfl, rfl⟩ := hrel
        by_cases hjl : j ≤ x.ss.length
        · go_wp2_with fail
          go_round
          case rel => exact ⟨j + 1, by omega, by go_num, by congr 1; omega⟩
          case measure => simp [intOf]; omega
        · obtain rfl : j = x.ss.length + 1 := by omega
          go_wp2_with fail
          go_round
          case rel => exact ⟨k + 1, by omega, by go_num, by rw [HQ.out]⟩
          case measure => simp [intOf]; omega
    · obtain rfl : k = x.ms.length + 1 := by omega
      go_wp2_with fail
      go_ret
      exact ⟨ret_int (by rw [← HE.out]; simp), HB0.out⟩
def sumF (l : List Pr) : List Int := l.map Pr.b
def sumL : List Int → Int
  | [] => 0
  | a :: l => a + sumL l
theorem sumL_append (l m : List Int) : sumL (l ++ m) = sumL l + sumL m := by
  induction l with
  | nil => simp [sumL]
  | cons a l ih => simp [sumL, ih]; omega
theorem sumF_snoc {l : List Pr} {k : Nat} (hk : k < l.length) : sumL (sumF (l.take (k + 1))) = sumL (sumF (l.take k)) + l[k].b := by
  unfold sumF; rw [List.take_succ_eq_append_getElem hk, List.map_append, sumL_append]; simp [sumL]
theorem sumF_bd (l : List Pr) (h : ∀ x ∈ l, 0 ≤ x.b ∧ x.b ≤ 1099511627776) : 0 ≤ sumL (sumF l) ∧ sumL (sumF l) ≤ 1099511627776 * (l.length : Int) := by
  induction l with
  | nil => simp [sumF, sumL]
  | cons a l ih =>
    have h1 := h a (by simp)
    have h2 := ih fun x hx => h x (by simp [hx])
    simp only [sumF, List.map_cons, sumL, List.length_cons] at *
    omega
set_option maxRecDepth 100000 in
set_option maxHeartbeats 800000 in
theorem rdraws_any (x : Cfg) (w : World) (h : CfOk w x) (hm : x.ms.length ≤ 20) (hr : ∀ y ∈ x.ms, 0 ≤ y.b ∧ y.b ≤ 1099511627776) (hb0 : 0 ≤ x.line) (hb1 : x.line ≤ 1099511627776) (hb2 : 0 ≤ x.capi) (hb3 : x.capi ≤ 1099511627776) :
    Calls Try.prog 13 #[x.val] w fun e w' => e = .returned (.int .i64 (x.line + x.capi + sumL (sumF x.ms))) ∧ Below w.heap.size w w' := by
  have HB0 := Lib.hid (box_below w x)
  have HS := Lib.hid (h.below (box_below w x)).m
  have HR := Lib.hid hr
  obtain ⟨c0, _, _, c3, c4, _, _, _, hlt⟩ := cf_new w x
  clear hlt hr h
  unfold Cfg.val at *
  go_enter Try.func13, Try.ntmps13
  go_wp2_with fail
  generalize (w.alloc (.cells #[.slice x.Am x.ms.length x.cm, .slice x.As x.ss.length x.cs, .slice x.Ac x.cy.length x.cc, .int .i64 x.line, .int .i64 x.capi, .int .i64 x.lead, .int .i64 x.tr, .int .i64 x.bids] 26)) = W0 at *
  go_loop [3, 4] (fun n m => ∃ k : Nat, k ≤ x.ms.length ∧ m = .int .i64 k ∧ n = .int .i64 (x.line + x.capi + sumL (sumF (x.ms.take k)))) (fun _ m => x.ms.length - (intOf m).toNat)
  case atStart => exact ⟨0, by omega, rfl, by simp [sumF, sumL]⟩
  case round =>
    obtain ⟨k, hk, rfl, rfl⟩ := hrel
    have hq := sumF_bd (x.ms.take k) fun y hy => HR.out y (List.mem_of_mem_take hy)
    have hq2 : ((x.ms.take k).length : Int) ≤ 20 := by rw [List.length_take]; omega
    obtain ⟨hq0, hq1⟩ := hq
    have hq3 : sumL (sumF (x.ms.take k)) ≤ 1099511627776 * 20 := by omega
    clear hq1 hq2
    by_cases hlt : k < x.ms.length
    · obtain ⟨b, o, e0, hb, _, d1⟩ := pr_at HS.out hlt
      have HN := Lib.hid (sumF_snoc hlt)
      generalize sumL (sumF (x.ms.take k)) = q at *
      obtain ⟨r0, r1⟩ := HR.out x.ms[k] (List.getElem_mem hlt)
      rw [e0] at c0
      go_wp2_with fail
      go_round
      case rel => exact ⟨k + 1, by omega, by go_num, by rw [HN.out]; congr 1; omega⟩
      case measure => simp [intOf]; omega
    · obtain rfl : k = x.ms.length := by omega
      rw [List.take_length]
      go_wp2_with fail
      go_ret
      exact ⟨rfl, HB0.out⟩
set_option maxHeartbeats 400000 in
theorem near_any (n a b : Int) (w : World) (h : a ≤ n) (h' : n ≤ b) : Calls Try.prog 20 #[.int .i64 n, .int .i64 a, .int .i64 b] w fun e w' => e = .returned (.int .i64 n) ∧ w = w' := by
  go_enter Try.func20, Try.ntmps20
  go_wp2_with fail
  go_ret
  refine ⟨ret_int ?_, rfl⟩
  omega
end Go.Proofs.Ytedmbmfppjokpaa
