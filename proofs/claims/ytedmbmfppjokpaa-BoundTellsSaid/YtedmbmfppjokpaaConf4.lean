/-
  What package conf's Wrong and Check come to, over this seat's translation: contracts for callers.
-/
import Derived.Test.YtedmbmfppjokpaaConf3
import Derived.Laws.EntriesVeiled
namespace Go.Proofs.Ytedmbmfppjokpaa
open Go.RowKit

/-- The table of checks. -/
def ckTab (b : Nat) : Array Value := #[.string ⟨#[109, 101, 109, 98, 101, 114, 115]⟩, .func (.func 29) #[] #[.pointer (some ⟨b, 0, none⟩)], .string ⟨#[115, 101, 99, 115]⟩, .func (.func 31) #[] #[.pointer (some ⟨b, 0, none⟩)], .string ⟨#[99, 121, 99, 108, 101, 115]⟩, .func (.func 33) #[] #[.pointer (some ⟨b, 0, none⟩)], .string ⟨#[108, 105, 110, 101]⟩, .func (.func 35) #[] #[.pointer (some ⟨b, 0, none⟩)], .string ⟨#[99, 97, 112, 105, 116, 97, 108]⟩, .func (.func 37) #[] #[.pointer (some ⟨b, 0, none⟩)], .string ⟨#[108, 101, 97, 100]⟩, .func (.func 38) #[] #[.pointer (some ⟨b, 0, none⟩)], .string ⟨#[116, 114, 97, 100, 101, 115]⟩, .func (.func 40) #[] #[.pointer (some ⟨b, 0, none⟩)], .string ⟨#[98, 105, 100, 115]⟩, .func (.func 41) #[] #[.pointer (some ⟨b, 0, none⟩)]]
set_option maxHeartbeats 400000 in
theorem checks_any (x : Cfg) (w : World) : Calls Try.prog 26 #[x.val] w fun e w' => e = .returned (.slice (some ⟨w.heap.size + 1, 0, none⟩) 8 8) ∧ (w.alloc (.cells #[.slice x.Am x.ms.length x.cm, .slice x.As x.ss.length x.cs, .slice x.Ac x.cy.length x.cc, .int .i64 x.line, .int .i64 x.capi, .int .i64 x.lead, .int .i64 x.tr, .int .i64 x.bids] 26)).alloc (.cells (ckTab w.heap.size) 60) = w' := by
  unfold Cfg.val ckTab
  go_enter Try.func26, Try.ntmps26
  go_wp2
  go_ret
  exact ⟨rfl, rfl⟩
/-- What is wrong first. -/
def wrongS (x : Cfg) : ByteArray := if membsB x.ms = false then ⟨#[109, 101, 109, 98, 101, 114, 115]⟩ else if secsB x.ss = false then ⟨#[115, 101, 99, 115]⟩ else if cyclesB x.cy = false then ⟨#[99, 121, 99, 108, 101, 115]⟩ else if inB x.line 0 1099511627776 = false then ⟨#[108, 105, 110, 101]⟩ else if inB x.capi 0 1099511627776 = false then ⟨#[99, 97, 112, 105, 116, 97, 108]⟩ else if inB x.lead 0 1000 = false then ⟨#[108, 101, 97, 100]⟩ else if inB x.tr 1 64 = false then ⟨#[116, 114, 97, 100, 101, 115]⟩ else if inB x.bids 1 32 = false then ⟨#[98, 105, 100, 115]⟩ else ⟨#[]⟩
def okB (x : Cfg) : Bool := membsB x.ms && secsB x.ss && cyclesB x.cy && inB x.line 0 1099511627776 && inB x.capi 0 1099511627776 && inB x.lead 0 1000 && inB x.tr 1 64 && inB x.bids 1 32
/-- The table lies at a block. -/
def TabAt (w : World) (g b : Nat) : Prop := ∀ j u, (ckTab b)[j]? = some u → w.cell? ⟨g, j, none⟩ = some u
theorem TabAt.below {w w' : World} {g b : Nat} (h : TabAt w g b) (hg : g < w.heap.size) (hb : Below w.heap.size w w') : TabAt w' g b := fun j u hu => (hb.cell (p := ⟨g, j, none⟩) hg).trans (h j u hu)
structure ConfAt (w : World) (g b : Nat) (x : Cfg) : Prop where
  tab : TabAt w g b
  lt : g < w.heap.size
  cf : CfAt w b x
  ok : CfOk w x
theorem ConfAt.below {w w' : World} {g b : Nat} {x : Cfg} (h : ConfAt w g b x) (hb : Below w.heap.size w w') : ConfAt w' g b x := ⟨h.tab.below h.lt hb, Nat.lt_of_lt_of_le h.lt hb.size, h.cf.below hb, h.ok.below hb⟩
theorem conf_new (w : World) (x : Cfg) (h : CfOk w x) : ConfAt ((w.alloc (.cells #[.slice x.Am x.ms.length x.cm, .slice x.As x.ss.length x.cs, .slice x.Ac x.cy.length x.cc, .int .i64 x.line, .int .i64 x.capi, .int .i64 x.lead, .int .i64 x.tr, .int .i64 x.bids] 26)).alloc (.cells (ckTab w.heap.size) 60)) (w.heap.size + 1) w.heap.size x := by
  have hb : Below (w.alloc (.cells #[.slice x.Am x.ms.length x.cm, .slice x.As x.ss.length x.cs, .slice x.Ac x.cy.length x.cc, .int .i64 x.line, .int .i64 x.capi, .int .i64 x.lead, .int .i64 x.tr, .int .i64 x.bids] 26)).heap.size (w.alloc (.cells #[.slice x.Am x.ms.length x.cm, .slice x.As x.ss.length x.cs, .slice x.Ac x.cy.length x.cc, .int .i64 x.line, .int .i64 x.capi, .int .i64 x.lead, .int .i64 x.tr, .int .i64 x.bids] 26)) ((w.alloc (.cells #[.slice x.Am x.ms.length x.cm, .slice x.As x.ss.length x.cs, .slice x.Ac x.cy.length x.cc, .int .i64 x.line, .int .i64 x.capi, .int .i64 x.lead, .int .i64 x.tr, .int .i64 x.bids] 26)).alloc (.cells (ckTab w.heap.size) 60)) := (Below.refl _ _).alloc (Nat.le_refl _) _
  refine ⟨fun j u hu => ?_, by simp, (cf_new w x).below hb, (h.below (box_below w x)).below hb⟩
  rw [cell_new _ _ _ _ (by simp)]
  exact hu
set_option maxRecDepth 100000 in
set_option maxHeartbeats 3200000 in
theorem wrong_any (x : Cfg) (w : World) (h : CfOk w x) (hm : x.ms.length ≤ 100000) (hs : x.ss.length ≤ 100000) (hc : x.cy.length ≤ 100000) :
    Calls Try.prog 21 #[x.val] w fun e w' => e = .returned (.string (wrongS x)) ∧ Below w.heap.size w w' := by
  have HC := Lib.hid (checks_any x (w.alloc (.cells #[.slice x.Am x.ms.length x.cm, .slice x.As x.ss.length x.cs, .slice x.Ac x.cy.length x.cc, .int .i64 x.line, .int .i64 x.capi, .int .i64 x.lead, .int .i64 x.tr, .int .i64 x.bids] 26)))
  have HN := Lib.hid (conf_new (w.alloc (.cells #[.slice x.Am x.ms.length x.cm, .slice x.As x.ss.length x.cs, .slice x.Ac x.cy.length x.cc, .int .i64 x.line, .int .i64 x.capi, .int .i64 x.lead, .int .i64 x.tr, .int .i64 x.bids] 26)) x (h.below (box_below w x)))
  have HB0 := Lib.hid (box_below w x)
  have HB1 : Hid (Below w.heap.size w (((w.alloc (.cells #[.slice x.Am x.ms.length x.cm, .slice x.As x.ss.length x.cs, .slice x.Ac x.cy.length x.cc, .int .i64 x.line, .int .i64 x.capi, .int .i64 x.lead, .int .i64 x.tr, .int .i64 x.bids] 26)).alloc (.cells #[.slice x.Am x.ms.length x.cm, .slice x.As x.ss.length x.cs, .slice x.Ac x.cy.length x.cc, .int .i64 x.line, .int .i64 x.capi, .int .i64 x.lead, .int .i64 x.tr, .int .i64 x.bids] 26)).alloc (.cells (ckTab (w.alloc (.cells #[.slice x.Am x.ms.length x.cm, .slice x.As x.ss.length x.cs, .slice x.Ac x.cy.length x.cc, .int .i64 x.line, .int .i64 x.capi, .int .i64 x.lead, .int .i64 x.tr, .int .i64 x.bids] 26)).heap.size) 60))) := (((box_below w x).alloc (by simp) _).alloc (by simp; omega) _)
  have HWR := Lib.hid (show wrongS x = if membsB x.ms = false then ⟨#[109, 101, 109, 98, 101, 114, 115]⟩ else if secsB x.ss = false then ⟨#[115, 101, 99, 115]⟩ else if cyclesB x.cy = false then ⟨#[99, 121, 99, 108, 101, 115]⟩ else if inB x.line 0 1099511627776 = false then ⟨#[108, 105, 110, 101]⟩ else if inB x.capi 0 1099511627776 = false then ⟨#[99, 97, 112, 105, 116, 97, 108]⟩ else if inB x.lead 0 1000 = false then ⟨#[108, 101, 97, 100]⟩ else if inB x.tr 1 64 = false then ⟨#[116, 114, 97, 100, 101, 115]⟩ else if inB x.bids 1 32 = false then ⟨#[98, 105, 100, 115]⟩ else ⟨#[]⟩ from rfl)
  generalize wrongS x = ws at *
  unfold Cfg.val at *
  clear h
  go_enter Try.func21, Try.ntmps21
  go_wp2_with fail
  refine HC.out.mono ?_
  rintro e w2 ⟨rfl, hw2⟩
  rw [hw2] at HN HB1
  clear hw2 HC
  generalize (w.alloc (.cells #[.slice x.Am x.ms.length x.cm, .slice x.As x.ss.length x.cs, .slice x.Ac x.cy.length x.cc, .int .i64 x.line, .int .i64 x.capi, .int .i64 x.lead, .int .i64 x.tr, .int .i64 x.bids] 26)).heap.size = b at *
  go_wp2_with fail
  refine wp_loop_rounds 9 ?_
  rw [rounds_succ]
  have t0 : w2.cell? ⟨b + 1, 0, none⟩ = some (.string ⟨#[109, 101, 109, 98, 101, 114, 115]⟩) := HN.out.tab 0 _ rfl
  have t1 : w2.cell? ⟨b + 1, 1, none⟩ = some (.func (.func 29) #[] #[.pointer (some ⟨b, 0, none⟩)]) := HN.out.tab 1 _ rfl
  have hlt := HN.out.lt
  have HNB := Lib.hid (HN.out.below ((Below.refl _ _).alloc (Nat.le_refl _) (.cells #[.string ⟨#[109, 101, 109, 98, 101, 114, 115]⟩, .func (.func 29) #[] #[.pointer (some ⟨b, 0, none⟩)]] 60)))
  have hsz := HB1.out.size
  go_wp2_with fail
  refine (check1_any x b _ HNB.out.cf HNB.out.ok hm).mono ?_
  rintro e w3 ⟨rfl, hb⟩
  have HBN : Hid (Below w.heap.size w w3) := (HB1.out.alloc hsz _).trans (hb.mono (by simp; omega))
  have HNN := Lib.hid (HNB.out.below hb)
  have q0 : w3.cell? ⟨w2.heap.size, 0, none⟩ = some (.string ⟨#[109, 101, 109, 98, 101, 114, 115]⟩) := (hb.cell (p := ⟨w2.heap.size, 0, none⟩) (by simp)).trans (cell_new _ _ _ 0 rfl)
  clear hb t0 t1 HNB HN HB1 hsz hlt
  cases hp0 : membsB x.ms
  · have HF : Hid (⟨#[109, 101, 109, 98, 101, 114, 115]⟩ = ws) := by show _ = _; rw [HWR.out]; simp [hp0]
    go_wp2_with fail
    go_ret
    exact ⟨congrArg (fun z => Ending.returned (.string z)) HF.out, HBN.out⟩
  have HN := HNN
  have HB1 := HBN
  clear q0 HNN HBN
  go_wp2_with fail
  rw [rounds_succ]
  have t0 : w3.cell? ⟨b + 1, 2, none⟩ = some (.string ⟨#[115, 101, 99, 115]⟩) := HN.out.tab 2 _ rfl
  have t1 : w3.cell? ⟨b + 1, 3, none⟩ = some (.func (.func 31) #[] #[.pointer (some ⟨b, 0, none⟩)]) := HN.out.tab 3 _ rfl
  have hlt := HN.out.lt
  have HNB := Lib.hid (HN.out.below ((Below.refl _ _).alloc (Nat.le_refl _) (.cells #[.string ⟨#[115, 101, 99, 115]⟩, .func (.func 31) #[] #[.pointer (some ⟨b, 0, none⟩)]] 60)))
  have hsz := HB1.out.size
  go_wp2_with fail
  refine (check2_any x b _ HNB.out.cf HNB.out.ok hs).mono ?_
  rintro e w4 ⟨rfl, hb⟩
  have HBN : Hid (Below w.heap.size w w4) := (HB1.out.alloc hsz _).trans (hb.mono (by simp; omega))
  have HNN := Lib.hid (HNB.out.below hb)
  have q0 : w4.cell? ⟨w3.heap.size, 0, none⟩ = some (.string ⟨#[115, 101, 99, 115]⟩) := (hb.cell (p := ⟨w3.heap.size, 0, none⟩) (by simp)).trans (cell_new _ _ _ 0 rfl)
  clear hb t0 t1 HNB HN HB1 hsz hlt
  cases hp1 : secsB x.ss
  · have HF : Hid (⟨#[115, 101, 99, 115]⟩ = ws) := by show _ = _; rw [HWR.out]; simp [hp0, hp1]
    go_wp2_with fail
    go_ret
    exact ⟨congrArg (fun z => Ending.returned (.string z)) HF.out, HBN.out⟩
  have HN := HNN
  have HB1 := HBN
  clear q0 HNN HBN
  go_wp2_with fail
  rw [rounds_succ]
  have t0 : w4.cell? ⟨b + 1, 4, none⟩ = some (.string ⟨#[99, 121, 99, 108, 101, 115]⟩) := HN.out.tab 4 _ rfl
  have t1 : w4.cell? ⟨b + 1, 5, none⟩ = some (.func (.func 33) #[] #[.pointer (some ⟨b, 0, none⟩)]) := HN.out.tab 5 _ rfl
  have hlt := HN.out.lt
  have HNB := Lib.hid (HN.out.below ((Below.refl _ _).alloc (Nat.le_refl _) (.cells #[.string ⟨#[99, 121, 99, 108, 101, 115]⟩, .func (.func 33) #[] #[.pointer (some ⟨b, 0, none⟩)]] 60)))
  have hsz := HB1.out.size
  go_wp2_with fail
  refine (check3_any x b _ HNB.out.cf HNB.out.ok hc).mono ?_
  rintro e w5 ⟨rfl, hb⟩
  have HBN : Hid (Below w.heap.size w w5) := (HB1.out.alloc hsz _).trans (hb.mono (by simp; omega))
  have HNN := Lib.hid (HNB.out.below hb)
  have q0 : w5.cell? ⟨w4.heap.size, 0, none⟩ = some (.string ⟨#[99, 121, 99, 108, 101, 115]⟩) := (hb.cell (p := ⟨w4.heap.size, 0, none⟩) (by simp)).trans (cell_new _ _ _ 0 rfl)
  clear hb t0 t1 HNB HN HB1 hsz hlt
  cases hp2 : cyclesB x.cy
  · have HF : Hid (⟨#[99, 121, 99, 108, 101, 115]⟩ = ws) := by show _ = _; rw [HWR.out]; simp [hp0, hp1, hp2]
    go_wp2_with fail
    go_ret
    exact ⟨congrArg (fun z => Ending.returned (.string z)) HF.out, HBN.out⟩
  have HN := HNN
  have HB1 := HBN
  clear q0 HNN HBN
  go_wp2_with fail
  rw [rounds_succ]
  have t0 : w5.cell? ⟨b + 1, 6, none⟩ = some (.string ⟨#[108, 105, 110, 101]⟩) := HN.out.tab 6 _ rfl
  have t1 : w5.cell? ⟨b + 1, 7, none⟩ = some (.func (.func 35) #[] #[.pointer (some ⟨b, 0, none⟩)]) := HN.out.tab 7 _ rfl
  have hlt := HN.out.lt
  have HNB := Lib.hid (HN.out.below ((Below.refl _ _).alloc (Nat.le_refl _) (.cells #[.string ⟨#[108, 105, 110, 101]⟩, .func (.func 35) #[] #[.pointer (some ⟨b, 0, none⟩)]] 60)))
  have hsz := HB1.out.size
  go_wp2_with fail
  refine (check4_any x b _ HNB.out.cf).mono ?_
  rintro e w6 ⟨rfl, hb⟩
  have HBN : Hid (Below w.heap.size w w6) := (HB1.out.alloc hsz _).trans (hb.mono (by simp; omega))
  have HNN := Lib.hid (HNB.out.below hb)
  have q0 : w6.cell? ⟨w5.heap.size, 0, none⟩ = some (.string ⟨#[108, 105, 110, 101]⟩) := (hb.cell (p := ⟨w5.heap.size, 0, none⟩) (by simp)).trans (cell_new _ _ _ 0 rfl)
  clear hb t0 t1 HNB HN HB1 hsz hlt
  cases hp3 : inB x.line 0 1099511627776
  · have HF : Hid (⟨#[108, 105, 110, 101]⟩ = ws) := by show _ = _; rw [HWR.out]; simp [hp0, hp1, hp2, hp3]
    go_wp2_with fail
    go_ret
    exact ⟨congrArg (fun z => Ending.returned (.string z)) HF.out, HBN.out⟩
  have HN := HNN
  have HB1 := HBN
  clear q0 HNN HBN
  go_wp2_with fail
  rw [rounds_succ]
  have t0 : w6.cell? ⟨b + 1, 8, none⟩ = some (.string ⟨#[99, 97, 112, 105, 116, 97, 108]⟩) := HN.out.tab 8 _ rfl
  have t1 : w6.cell? ⟨b + 1, 9, none⟩ = some (.func (.func 37) #[] #[.pointer (some ⟨b, 0, none⟩)]) := HN.out.tab 9 _ rfl
  have hlt := HN.out.lt
  have HNB := Lib.hid (HN.out.below ((Below.refl _ _).alloc (Nat.le_refl _) (.cells #[.string ⟨#[99, 97, 112, 105, 116, 97, 108]⟩, .func (.func 37) #[] #[.pointer (some ⟨b, 0, none⟩)]] 60)))
  have hsz := HB1.out.size
  go_wp2_with fail
  refine (check5_any x b _ HNB.out.cf).mono ?_
  rintro e w7 ⟨rfl, hb⟩
  have HBN : Hid (Below w.heap.size w w7) := (HB1.out.alloc hsz _).trans (hb.mono (by simp; omega))
  have HNN := Lib.hid (HNB.out.below hb)
  have q0 : w7.cell? ⟨w6.heap.size, 0, none⟩ = some (.string ⟨#[99, 97, 112, 105, 116, 97, 108]⟩) := (hb.cell (p := ⟨w6.heap.size, 0, none⟩) (by simp)).trans (cell_new _ _ _ 0 rfl)
  clear hb t0 t1 HNB HN HB1 hsz hlt
  cases hp4 : inB x.capi 0 1099511627776
  · have HF : Hid (⟨#[99, 97, 112, 105, 116, 97, 108]⟩ = ws) := by show _ = _; rw [HWR.out]; simp [hp0, hp1, hp2, hp3, hp4]
    go_wp2_with fail
    go_ret
    exact ⟨congrArg (fun z => Ending.returned (.string z)) HF.out, HBN.out⟩
  have HN := HNN
  have HB1 := HBN
  clear q0 HNN HBN
  go_wp2_with fail
  rw [rounds_succ]
  have t0 : w7.cell? ⟨b + 1, 10, none⟩ = some (.string ⟨#[108, 101, 97, 100]⟩) := HN.out.tab 10 _ rfl
  have t1 : w7.cell? ⟨b + 1, 11, none⟩ = some (.func (.func 38) #[] #[.pointer (some ⟨b, 0, none⟩)]) := HN.out.tab 11 _ rfl
  have hlt := HN.out.lt
  have HNB := Lib.hid (HN.out.below ((Below.refl _ _).alloc (Nat.le_refl _) (.cells #[.string ⟨#[108, 101, 97, 100]⟩, .func (.func 38) #[] #[.pointer (some ⟨b, 0, none⟩)]] 60)))
  have hsz := HB1.out.size
  go_wp2_with fail
  refine (check6_any x b _ HNB.out.cf).mono ?_
  rintro e w8 ⟨rfl, hb⟩
  have HBN : Hid (Below w.heap.size w w8) := (HB1.out.alloc hsz _).trans (hb.mono (by simp; omega))
  have HNN := Lib.hid (HNB.out.below hb)
  have q0 : w8.cell? ⟨w7.heap.size, 0, none⟩ = some (.string ⟨#[108, 101, 97, 100]⟩) := (hb.cell (p := ⟨w7.heap.size, 0, none⟩) (by simp)).trans (cell_new _ _ _ 0 rfl)
  clear hb t0 t1 HNB HN HB1 hsz hlt
  cases hp5 : inB x.lead 0 1000
  · have HF : Hid (⟨#[108, 101, 97, 100]⟩ = ws) := by show _ = _; rw [HWR.out]; simp [hp0, hp1, hp2, hp3, hp4, hp5]
    go_wp2_with fail
    go_ret
    exact ⟨congrArg (fun z => Ending.returned (.string z)) HF.out, HBN.out⟩
  have HN := HNN
  have HB1 := HBN
  clear q0 HNN HBN
  go_wp2_with fail
  rw [rounds_succ]
  have t0 : w8.cell? ⟨b + 1, 12, none⟩ = some (.string ⟨#[116, 114, 97, 100, 101, 115]⟩) := HN.out.tab 12 _ rfl
  have t1 : w8.cell? ⟨b + 1, 13, none⟩ = some (.func (.func 40) #[] #[.pointer (some ⟨b, 0, none⟩)]) := HN.out.tab 13 _ rfl
  have hlt := HN.out.lt
  have HNB := Lib.hid (HN.out.below ((Below.refl _ _).alloc (Nat.le_refl _) (.cells #[.string ⟨#[116, 114, 97, 100, 101, 115]⟩, .func (.func 40) #[] #[.pointer (some ⟨b, 0, none⟩)]] 60)))
  have hsz := HB1.out.size
  go_wp2_with fail
  refine (check7_any x b _ HNB.out.cf).mono ?_
  rintro e w9 ⟨rfl, hb⟩
  have HBN : Hid (Below w.heap.size w w9) := (HB1.out.alloc hsz _).trans (hb.mono (by simp; omega))
  have HNN := Lib.hid (HNB.out.below hb)
  have q0 : w9.cell? ⟨w8.heap.size, 0, none⟩ = some (.string ⟨#[116, 114, 97, 100, 101, 115]⟩) := (hb.cell (p := ⟨w8.heap.size, 0, none⟩) (by simp)).trans (cell_new _ _ _ 0 rfl)
  clear hb t0 t1 HNB HN HB1 hsz hlt
  cases hp6 : inB x.tr 1 64
  · have HF : Hid (⟨#[116, 114, 97, 100, 101, 115]⟩ = ws) := by show _ = _; rw [HWR.out]; simp [hp0, hp1, hp2, hp3, hp4, hp5, hp6]
    go_wp2_with fail
    go_ret
    exact ⟨congrArg (fun z => Ending.returned (.string z)) HF.out, HBN.out⟩
  have HN := HNN
  have HB1 := HBN
  clear q0 HNN HBN
  go_wp2_with fail
  rw [rounds_succ]
  have t0 : w9.cell? ⟨b + 1, 14, none⟩ = some (.string ⟨#[98, 105, 100, 115]⟩) := HN.out.tab 14 _ rfl
  have t1 : w9.cell? ⟨b + 1, 15, none⟩ = some (.func (.func 41) #[] #[.pointer (some ⟨b, 0, none⟩)]) := HN.out.tab 15 _ rfl
  have hlt := HN.out.lt
  have HNB := Lib.hid (HN.out.below ((Below.refl _ _).alloc (Nat.le_refl _) (.cells #[.string ⟨#[98, 105, 100, 115]⟩, .func (.func 41) #[] #[.pointer (some ⟨b, 0, none⟩)]] 60)))
  have hsz := HB1.out.size
  go_wp2_with fail
  refine (check8_any x b _ HNB.out.cf).mono ?_
  rintro e w10 ⟨rfl, hb⟩
  have HBN : Hid (Below w.heap.size w w10) := (HB1.out.alloc hsz _).trans (hb.mono (by simp; omega))
  have HNN := Lib.hid (HNB.out.below hb)
  have q0 : w10.cell? ⟨w9.heap.size, 0, none⟩ = some (.string ⟨#[98, 105, 100, 115]⟩) := (hb.cell (p := ⟨w9.heap.size, 0, none⟩) (by simp)).trans (cell_new _ _ _ 0 rfl)
  clear hb t0 t1 HNB HN HB1 hsz hlt
  cases hp7 : inB x.bids 1 32
  · have HF : Hid (⟨#[98, 105, 100, 115]⟩ = ws) := by show _ = _; rw [HWR.out]; simp [hp0, hp1, hp2, hp3, hp4, hp5, hp6, hp7]
    go_wp2_with fail
    go_ret
    exact ⟨congrArg (fun z => Ending.returned (.string z)) HF.out, HBN.out⟩
  have HN := HNN
  have HB1 := HBN
  clear q0 HNN HBN
  go_wp2_with fail
  rw [rounds_succ]
  have HF : Hid (⟨#[]⟩ = ws) := by show _ = _; rw [HWR.out]; simp [hp0, hp1, hp2, hp3, hp4, hp5, hp6, hp7]
  go_wp2_with fail
  go_ret
  exact ⟨congrArg (fun z => Ending.returned (.string z)) HF.out, HB1.out⟩
end Go.Proofs.Ytedmbmfppjokpaa
