/-
  What package conf's Check and Last come to, over this seat's translation: contracts for callers.
-/
import Derived.Test.YtedmbmfppjokpaaConf4
namespace Go.Proofs.Ytedmbmfppjokpaa
open Go.RowKit

theorem wrong_ok {x : Cfg} (h : okB x = true) : wrongS x = ⟨#[]⟩ := by
  unfold okB at h
  simp only [Bool.and_eq_true] at h
  obtain ⟨⟨⟨⟨⟨⟨⟨h0, h1⟩, h2⟩, h3⟩, h4⟩, h5⟩, h6⟩, h7⟩ := h
  unfold wrongS
  simp [h0, h1, h2, h3, h4, h5, h6, h7]
theorem wrong_bad {x : Cfg} (h : okB x = false) : wrongS x = ⟨#[109, 101, 109, 98, 101, 114, 115]⟩ ∨ wrongS x = ⟨#[115, 101, 99, 115]⟩ ∨ wrongS x = ⟨#[99, 121, 99, 108, 101, 115]⟩ ∨ wrongS x = ⟨#[108, 105, 110, 101]⟩ ∨ wrongS x = ⟨#[99, 97, 112, 105, 116, 97, 108]⟩ ∨ wrongS x = ⟨#[108, 101, 97, 100]⟩ ∨ wrongS x = ⟨#[116, 114, 97, 100, 101, 115]⟩ ∨ wrongS x = ⟨#[98, 105, 100, 115]⟩ := by
  unfold okB at h
  unfold wrongS
  cases h0 : membsB x.ms
  · simp
  cases h1 : secsB x.ss
  · simp
  cases h2 : cyclesB x.cy
  · simp
  cases h3 : inB x.line 0 1099511627776
  · simp
  cases h4 : inB x.capi 0 1099511627776
  · simp
  cases h5 : inB x.lead 0 1000
  · simp
  cases h6 : inB x.tr 1 64
  · simp
  cases h7 : inB x.bids 1 32
  · simp
  simp [h0, h1, h2, h3, h4, h5, h6, h7] at h
/-- What Check says. -/
def ckI (x : Cfg) : Int := if okB x = true then 0 else 1
set_option maxRecDepth 100000 in
set_option maxHeartbeats 1600000 in
theorem check_any (x : Cfg) (w : World) (h : CfOk w x) (hm : x.ms.length ≤ 100000) (hs : x.ss.length ≤ 100000) (hc : x.cy.length ≤ 100000) :
    Calls Try.prog 15 #[x.val] w fun e w' => e = .returned (.int .i64 (ckI x)) ∧ Below w.heap.size w w' := by
  have HB0 := Lib.hid (box_below w x)
  have HW := Lib.hid (wrong_any x (w.alloc (.cells #[.slice x.Am x.ms.length x.cm, .slice x.As x.ss.length x.cs, .slice x.Ac x.cy.length x.cc, .int .i64 x.line, .int .i64 x.capi, .int .i64 x.lead, .int .i64 x.tr, .int .i64 x.bids] 26)) (h.below (box_below w x)) hm hs hc)
  have HG := Lib.hid (@wrong_ok x)
  have HX := Lib.hid (@wrong_bad x)
  have HC : Hid (ckI x = if okB x = true then 0 else 1) := rfl
  generalize wrongS x = ws at *
  generalize ckI x = ci at *
  generalize okB x = ok at *
  unfold Cfg.val at *
  clear h
  go_enter Try.func15, Try.ntmps15
  go_wp2_with fail
  refine HW.out.mono ?_
  rintro e w2 ⟨rfl, hb⟩
  have HB : Hid (Below w.heap.size w w2) := HB0.out.trans (hb.mono (by simp))
  clear hb HW HB0
  cases ok
  · have HF : Hid (ci = 1) := by show _ = _; rw [HC.out]; rfl
    rcases HX.out rfl with rfl | rfl | rfl | rfl | rfl | rfl | rfl | rfl
    all_goals
      clear HX HG HC
      go_wp2_with fail
      go_ret
      exact ⟨congrArg (fun z => Ending.returned (.int .i64 z)) HF.out.symm, HB.out⟩
  · have HF : Hid (ci = 0) := by show _ = _; rw [HC.out]; rfl
    obtain rfl := HG.out rfl
    clear HX HG HC
    go_wp2_with fail
    go_ret
    exact ⟨congrArg (fun z => Ending.returned (.int .i64 z)) HF.out.symm, HB.out⟩
/-- The last tick. -/
def lastT (l : List Cy) : Int := if h : 0 < l.length then (l[l.length - 1]'(by omega)).d else 0
end Go.Proofs.Ytedmbmfppjokpaa
