/-
  What Few and conf.near come to, over this seat's translation: contracts for callers. (Printed by wip/gen_cfg.py.)
-/
import Derived.Test.YtglpnpjjjihghaaCfg
import Derived.Test.YtglpnpjjjihghaaIntsW
namespace Go.Proofs.Ytglpnpjjjihghaa
open Go.RowKit

def fewB (x : Cfg) : Bool := decide (x.ms.length ≤ 20) && (decide (x.ss.length ≤ 20) && decide (x.cy.length ≤ 20))
set_option maxRecDepth 100000 in
set_option maxHeartbeats 800000 in
theorem few_any (x : Cfg) (w : World) (hm : x.ms.length ≤ maxLen) (hs : x.ss.length ≤ maxLen) (hc : x.cy.length ≤ maxLen) :
    Calls Try.prog 10 #[x.val] w fun e w' => e = .returned (.bool (fewB x)) ∧ Below w.heap.size w w' := by
  have HB0 := Lib.hid (box_below w x)
  have HF := Lib.hid (show fewB x = (decide (x.ms.length ≤ 20) && (decide (x.ss.length ≤ 20) && decide (x.cy.length ≤ 20))) from rfl)
  unfold maxLen at hm hs hc
  generalize fewB x = fb at *
  unfold Cfg.val at *
  by_cases h1 : x.ms.length ≤ 20
  · by_cases h2 : x.ss.length ≤ 20
    · by_cases h3 : x.cy.length ≤ 20
      · have HG : Hid (true = fb) := by show _ = _; rw [HF.out]; simp [h1, h2, h3]
        clear HF
        go_enter Try.func10, Try.ntmps10
        go_wp2_with fail
        go_ret
        exact ⟨ret_bool (by rw [← HG.out]; simp; omega), HB0.out⟩
      · have HG : Hid (false = fb) := by show _ = _; rw [HF.out]; simp [h3]
        clear HF
        go_enter Try.func10, Try.ntmps10
        go_wp2_with fail
        go_ret
        exact ⟨ret_bool (by rw [← HG.out]; simp; omega), HB0.out⟩
    · have HG : Hid (false = fb) := by show _ = _; rw [HF.out]; simp [h2]
      clear HF
      go_enter Try.func10, Try.ntmps10
      go_wp2_with fail
      go_ret
      exact ⟨ret_bool HG.out, HB0.out⟩
  · have HG : Hid (false = fb) := by show _ = _; rw [HF.out]; simp [h1]
    clear HF
    go_enter Try.func10, Try.ntmps10
    go_wp2_with fail
    go_ret
    exact ⟨ret_bool HG.out, HB0.out⟩
set_option maxHeartbeats 400000 in
theorem near_any (n a b : Int) (w : World) (h : a ≤ n) (h' : n ≤ b) : Calls Try.prog 64 #[.int .i64 n, .int .i64 a, .int .i64 b] w fun e w' => e = .returned (.int .i64 n) ∧ w = w' := by
  go_enter Try.func64, Try.ntmps64
  go_wp2_with fail
  go_ret
  refine ⟨ret_int ?_, rfl⟩
  omega
end Go.Proofs.Ytglpnpjjjihghaa
