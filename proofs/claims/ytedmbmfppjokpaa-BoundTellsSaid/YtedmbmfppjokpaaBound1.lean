/-
  What package conf's Last and package bound's Step, Ticks and Records come to, over this seat's translation: contracts for callers.
-/
import Derived.Test.YtedmbmfppjokpaaConf5
namespace Go.Proofs.Ytedmbmfppjokpaa
open Go.RowKit

theorem lastT_pos {l : List Cy} (h : 0 < l.length) : lastT l = (l[l.length - 1]'(by omega)).d := by unfold lastT; rw [dif_pos h]
theorem lastT_nil {l : List Cy} (h : l.length = 0) : lastT l = 0 := by unfold lastT; rw [dif_neg (by omega)]
set_option maxRecDepth 100000 in
set_option maxHeartbeats 800000 in
theorem last_any (x : Cfg) (w : World) (h : CfOk w x) (hl : x.cy.length ≤ 100000) :
    Calls Try.prog 19 #[x.val] w fun e w' => e = .returned (.int .i64 (lastT x.cy)) ∧ Below w.heap.size w w' := by
  have HOK := Lib.hid (h.below (box_below w x))
  have HB0 := Lib.hid (box_below w x)
  have c2 := (cf_new w x).c2
  unfold Cfg.val
  clear h
  obtain ⟨ms, Am, cm, ss, As, cs, cy, Ac, cc, line, capi, lead, tr, bids⟩ := x
  dsimp only at *
  by_cases h0 : cy.length = 0
  · have HF := Lib.hid (lastT_nil h0)
    have h0' : (cy.length : Int) = 0 := by omega
    go_enter Try.func19, Try.ntmps19
    go_wp2
    go_ret
    exact ⟨ret_int HF.out.symm, (Below.refl _ _).alloc (Nat.le_refl _) _⟩
  · have hseg : Seg (w.alloc (.cells #[.slice Am ms.length cm, .slice As ss.length cs, .slice Ac cy.length cc, .int .i64 line, .int .i64 capi, .int .i64 lead, .int .i64 tr, .int .i64 bids] 26)) (w.alloc (.cells #[.slice Am ms.length cm, .slice As ss.length cs, .slice Ac cy.length cc, .int .i64 line, .int .i64 capi, .int .i64 lead, .int .i64 tr, .int .i64 bids] 26)).heap.size Ac (cyRows cy) := HOK.out.c
    obtain ⟨b, o, rfl, hb, q0, q1, q2, q3⟩ := cy_at hseg (k := cy.length - 1) (by omega)
    clear HOK hseg
    have HF := Lib.hid (lastT_pos (l := cy) (by omega))
    have h0' : ¬ (cy.length : Int) = 0 := by omega
    have h1 : (0 : Int) < cy.length := by omega
    have HK := Lib.hid (show ((cy.length : Int) - 1).toNat = cy.length - 1 by omega)
    go_enter Try.func19, Try.ntmps19
    go_wp2
    go_ret
    exact ⟨ret_int HF.out.symm, HB0.out⟩

/-- The bounds of a house that may be. -/
theorem ok_bounds {x : Cfg} (h : okB x = true) : (2 ≤ x.ms.length ∧ x.ms.length ≤ 16) ∧ (1 ≤ x.ss.length ∧ x.ss.length ≤ 8) ∧ (1 ≤ x.cy.length ∧ x.cy.length ≤ 4) ∧ (1 ≤ x.bids ∧ x.bids ≤ 32) := by
  simp only [okB, membsB, secsB, cyclesB, inB, Bool.and_eq_true, decide_eq_true_eq] at h
  omega
def stepI (x : Cfg) : Int := if okB x = true then 12 * ((x.ms.length : Int) + 1) * ((x.ss.length : Int) + 1) + 2 * x.bids else 0
def ticksI (x : Cfg) : Int := if okB x = true then lastT x.cy else 0
def recsI (x : Cfg) : Int := if okB x = true then 116508 else 0
set_option maxRecDepth 100000 in
set_option maxHeartbeats 1600000 in
theorem records_any (x : Cfg) (w : World) (h : CfOk w x) (hm : x.ms.length ≤ 100000) (hs : x.ss.length ≤ 100000) (hc : x.cy.length ≤ 100000) :
    Calls Try.prog 11 #[x.val] w fun e w' => e = .returned (.int .i64 (recsI x)) ∧ Below w.heap.size w w' := by
  have HB0 := Lib.hid (box_below w x)
  have HW := Lib.hid (check_any x (w.alloc (.cells #[.slice x.Am x.ms.length x.cm, .slice x.As x.ss.length x.cs, .slice x.Ac x.cy.length x.cc, .int .i64 x.line, .int .i64 x.capi, .int .i64 x.lead, .int .i64 x.tr, .int .i64 x.bids] 26)) (h.below (box_below w x)) hm hs hc)
  have HCF := Lib.hid (cf_new w x)
  have HOK := Lib.hid (h.below (box_below w x))
  have HC : Hid (ckI x = if okB x = true then 0 else 1) := rfl
  have HV : Hid (recsI x = if okB x = true then 116508 else 0) := rfl
  generalize recsI x = vi at *
  unfold Cfg.val at *
  clear h
  go_enter Try.func11, Try.ntmps11
  go_wp2_with fail
  refine HW.out.mono ?_
  rintro e w2 ⟨rfl, hb⟩
  have HB : Hid (Below w.heap.size w w2) := HB0.out.trans (hb.mono (by simp))
  have HCG := Lib.hid (HCF.out.below hb)
  have HOG := Lib.hid (HOK.out.below hb)
  clear hb HW HB0 HCF HOK
  generalize ckI x = ci at *
  cases hok : okB x
  · obtain rfl : ci = 1 := by rw [HC.out, hok]; rfl
    have HF : Hid (vi = 0) := by show _ = _; rw [HV.out, hok]; rfl
    clear HC HV
    go_wp2_with fail
    go_ret
    exact ⟨ret_int HF.out.symm, HB.out⟩
  · obtain rfl : ci = 0 := by rw [HC.out, hok]; rfl
    have HF : Hid (vi = 116508) := by show _ = _; rw [HV.out, hok]; rfl
    clear HC HV
    go_wp2_with fail
    go_ret
    exact ⟨ret_int HF.out.symm, HB.out⟩
set_option maxRecDepth 100000 in
set_option maxHeartbeats 1600000 in
theorem bticks_any (x : Cfg) (w : World) (h : CfOk w x) (hm : x.ms.length ≤ 100000) (hs : x.ss.length ≤ 100000) (hc : x.cy.length ≤ 100000) :
    Calls Try.prog 10 #[x.val] w fun e w' => e = .returned (.int .i64 (ticksI x)) ∧ Below w.heap.size w w' := by
  have HB0 := Lib.hid (box_below w x)
  have HW := Lib.hid (check_any x (w.alloc (.cells #[.slice x.Am x.ms.length x.cm, .slice x.As x.ss.length x.cs, .slice x.Ac x.cy.length x.cc, .int .i64 x.line, .int .i64 x.capi, .int .i64 x.lead, .int .i64 x.tr, .int .i64 x.bids] 26)) (h.below (box_below w x)) hm hs hc)
  have HCF := Lib.hid (cf_new w x)
  have HOK := Lib.hid (h.below (box_below w x))
  have HC : Hid (ckI x = if okB x = true then 0 else 1) := rfl
  have HV : Hid (ticksI x = if okB x = true then lastT x.cy else 0) := rfl
  generalize ticksI x = vi at *
  unfold Cfg.val at *
  clear h
  go_enter Try.func10, Try.ntmps10
  go_wp2_with fail
  refine HW.out.mono ?_
  rintro e w2 ⟨rfl, hb⟩
  have HB : Hid (Below w.heap.size w w2) := HB0.out.trans (hb.mono (by simp))
  have HCG := Lib.hid (HCF.out.below hb)
  have HOG := Lib.hid (HOK.out.below hb)
  clear hb HW HB0 HCF HOK
  generalize ckI x = ci at *
  cases hok : okB x
  · obtain rfl : ci = 1 := by rw [HC.out, hok]; rfl
    have HF : Hid (vi = 0) := by show _ = _; rw [HV.out, hok]; rfl
    clear HC HV
    go_wp2_with fail
    go_ret
    exact ⟨ret_int HF.out.symm, HB.out⟩
  · obtain rfl : ci = 0 := by rw [HC.out, hok]; rfl
    have HF : Hid (vi = lastT x.cy) := by show _ = _; rw [HV.out, hok]; rfl
    clear HC HV
    have c0 := HCG.out.c0; have c1 := HCG.out.c1; have c2 := HCG.out.c2; have c3 := HCG.out.c3; have c4 := HCG.out.c4; have c5 := HCG.out.c5; have c6 := HCG.out.c6; have c7 := HCG.out.c7
    have HL := Lib.hid (last_any x w2 HOG.out hc)
    unfold Cfg.val at HL
    go_wp2_with fail
    refine HL.out.mono ?_
    rintro e w3 ⟨rfl, hb⟩
    have HD : Hid (Below w.heap.size w w3) := HB.out.trans (hb.mono HB.out.size)
    clear hb
    go_wp2_with fail
    go_ret
    exact ⟨ret_int HF.out.symm, HD.out⟩
set_option maxRecDepth 100000 in
set_option maxHeartbeats 1600000 in
theorem bstep_any (x : Cfg) (w : World) (h : CfOk w x) (hm : x.ms.length ≤ 100000) (hs : x.ss.length ≤ 100000) (hc : x.cy.length ≤ 100000) :
    Calls Try.prog 9 #[x.val] w fun e w' => e = .returned (.int .i64 (stepI x)) ∧ Below w.heap.size w w' := by
  have HB0 := Lib.hid (box_below w x)
  have HW := Lib.hid (check_any x (w.alloc (.cells #[.slice x.Am x.ms.length x.cm, .slice x.As x.ss.length x.cs, .slice x.Ac x.cy.length x.cc, .int .i64 x.line, .int .i64 x.capi, .int .i64 x.lead, .int .i64 x.tr, .int .i64 x.bids] 26)) (h.below (box_below w x)) hm hs hc)
  have HCF := Lib.hid (cf_new w x)
  have HOK := Lib.hid (h.below (box_below w x))
  have HC : Hid (ckI x = if okB x = true then 0 else 1) := rfl
  have HV : Hid (stepI x = if okB x = true then 12 * ((x.ms.length : Int) + 1) * ((x.ss.length : Int) + 1) + 2 * x.bids else 0) := rfl
  generalize stepI x = vi at *
  unfold Cfg.val at *
  clear h
  go_enter Try.func9, Try.ntmps9
  go_wp2_with fail
  refine HW.out.mono ?_
  rintro e w2 ⟨rfl, hb⟩
  have HB : Hid (Below w.heap.size w w2) := HB0.out.trans (hb.mono (by simp))
  have HCG := Lib.hid (HCF.out.below hb)
  have HOG := Lib.hid (HOK.out.below hb)
  clear hb HW HB0 HCF HOK
  generalize ckI x = ci at *
  cases hok : okB x
  · obtain rfl : ci = 1 := by rw [HC.out, hok]; rfl
    have HF : Hid (vi = 0) := by show _ = _; rw [HV.out, hok]; rfl
    clear HC HV
    go_wp2_with fail
    go_ret
    exact ⟨ret_int HF.out.symm, HB.out⟩
  · obtain rfl : ci = 0 := by rw [HC.out, hok]; rfl
    have HF : Hid (vi = 12 * ((x.ms.length : Int) + 1) * ((x.ss.length : Int) + 1) + 2 * x.bids) := by show _ = _; rw [HV.out, hok]; rfl
    clear HC HV
    have c0 := HCG.out.c0; have c1 := HCG.out.c1; have c7 := HCG.out.c7
    obtain ⟨b0, b1, b2, b3⟩ := ok_bounds hok
    have HP := Lib.hid (show (12 * ((x.ms.length : Int) + 1)) * ((x.ss.length : Int) + 1) ≤ 12 * 17 * 9 ∧ 0 ≤ (12 * ((x.ms.length : Int) + 1)) * ((x.ss.length : Int) + 1) from ⟨Int.mul_le_mul (by omega) (by omega) (by omega) (by omega), Int.mul_nonneg (by omega) (by omega)⟩)
    have hp := HP.out
    go_wp2_with fail
    go_ret
    exact ⟨ret_int HF.out.symm, HB.out⟩
end Go.Proofs.Ytedmbmfppjokpaa
