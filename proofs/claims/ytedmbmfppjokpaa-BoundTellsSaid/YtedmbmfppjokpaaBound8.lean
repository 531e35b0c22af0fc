/-
  What complinelaw35.BoundTells comes to, over this seat's translation: true.
-/
import Derived.Test.YtedmbmfppjokpaaBound7
import Derived.Test.YtedmbmfppjokpaaBel
namespace Go.Proofs.Ytedmbmfppjokpaa
open Go.RowKit

theorem few_len {x : Cfg} (h : fewB x = true) : x.ms.length ≤ 20 ∧ x.ss.length ≤ 20 ∧ x.cy.length ≤ 20 := by
  simp only [fewB, Bool.and_eq_true, decide_eq_true_eq] at h
  omega
theorem cy_last {w : World} {B b o : Nat} {l : List Cy} (h : Seg w B (some ⟨b, o, none⟩) (cyRows l)) (hl : 0 < l.length) : b < B ∧ w.cell? ⟨b, o + (l.length - 1) * 4 + 3, none⟩ = some (.int .i64 (lastT l)) := by
  obtain ⟨b', o', e, hb, _, _, _, q⟩ := cy_at h (k := l.length - 1) (by omega)
  injection e with e
  injection e with e1 e2
  subst e1 e2
  rw [lastT_pos hl]
  exact ⟨hb, q⟩
set_option maxRecDepth 100000 in
set_option maxHeartbeats 6400000 in
theorem tells_any (x : Cfg) (n : Int) (w : World) (hn : I64 n) (h : CfOk w x) (hm : x.ms.length ≤ maxLen) (hs : x.ss.length ≤ maxLen) (hc : x.cy.length ≤ maxLen) :
    Calls Try.prog 3 #[x.val, .int .i64 n] w fun e w' => e = .returned (.bool true) ∧ Below w.heap.size w w' := by
  have HB1 := Lib.hid (box_below w x)
  have HC1 := Lib.hid (cf_new w x)
  have HO1 := Lib.hid (h.below (box_below w x))
  have HFEW : Hid (∀ W, CfOk W x → Calls Try.prog 4 #[x.val] W fun e w' => e = .returned (.bool (fewB x)) ∧ Below W.heap.size W w') := fun W _ => few_any x W hm hs hc
  have HLEN := Lib.hid (@few_len x)
  have HN := Lib.hid hn
  clear h hn hm hs hc
  cases hfew : fewB x
  · rw [hfew] at HFEW
    clear HLEN
    unfold Cfg.val at *
    have HCX := Lib.hid (HFEW.out _ HO1.out)
    clear HFEW
    go_enter Try.func3, Try.ntmps3
    go_wp2_with fail
    refine HCX.out.mono ?_
    rintro e w2 ⟨rfl, hb⟩
    have HB2 : Hid (Below w.heap.size w w2) := HB1.out.trans (hb.mono HB1.out.size)
    clear hb HCX HB1 HC1 HO1
    go_wp2_with fail
    refine (awake_any _).mono ?_
    rintro e w3 ⟨rfl, hb⟩
    have HB3 : Hid (Below w.heap.size w w3) := HB2.out.trans (hb.mono HB2.out.size)
    clear hb
    go_wp2_with fail
    go_ret
    exact ⟨rfl, HB3.out⟩
  obtain ⟨l1, l2, l3⟩ := HLEN.out hfew
  rw [hfew] at HFEW
  have HSCR : Hid (∀ W, CfOk W x → Calls Try.prog 6 #[x.val, .int .i64 n] W fun e w' => e = .returned (.tuple #[.int .i64 (scV x n), .int .i64 (scE x n)]) ∧ Below W.heap.size W w') := fun W hW => script_any x n W HN.out hW (by omega) (by omega) (by omega)
  have HDR : Hid (∀ W, CfOk W x → Calls Try.prog 7 #[x.val] W fun e w' => e = .returned (.tuple #[.int .i64 (dwV x), .int .i64 (dwE x)]) ∧ Below W.heap.size W w') := fun W hW => draws_any x W hW (by omega) (by omega) (by omega)
  have HWR : Hid (∀ W, CfOk W x → Calls Try.prog 8 #[x.val] W fun e w' => e = .returned (.string (wrongS x)) ∧ Below W.heap.size W w') := fun W hW => rwrong_any x W hW (by omega) (by omega) (by omega)
  have HSTP : Hid (∀ W, CfOk W x → Calls Try.prog 9 #[x.val] W fun e w' => e = .returned (.int .i64 (stepI x)) ∧ Below W.heap.size W w') := fun W hW => bstep_any x W hW (by omega) (by omega) (by omega)
  have HTIC : Hid (∀ W, CfOk W x → Calls Try.prog 10 #[x.val] W fun e w' => e = .returned (.int .i64 (ticksI x)) ∧ Below W.heap.size W w') := fun W hW => bticks_any x W hW (by omega) (by omega) (by omega)
  have HREC : Hid (∀ W, CfOk W x → Calls Try.prog 11 #[x.val] W fun e w' => e = .returned (.int .i64 (recsI x)) ∧ Below W.heap.size W w') := fun W hW => records_any x W hW (by omega) (by omega) (by omega)
  clear hfew HLEN
  cases hok : okB x
  · obtain ⟨k1, k2, k3, k4, k5, k6, k7⟩ := bad_all hok n
    have HX := Lib.hid (wrong_bad hok)
    rw [k1, k2] at HSCR
    rw [k3, k4] at HDR
    rw [k5] at HSTP
    rw [k6] at HTIC
    rw [k7] at HREC
    generalize wrongS x = ws at *
    clear k1 k2 k3 k4 k5 k6 k7 hok
    unfold Cfg.val at *
    go_enter Try.func3, Try.ntmps3
    have HCX := Lib.hid (HFEW.out _ HO1.out)
    have c0 := HC1.out.c0; have c1 := HC1.out.c1; have c2 := HC1.out.c2; have c3 := HC1.out.c3; have c4 := HC1.out.c4; have c5 := HC1.out.c5; have c6 := HC1.out.c6; have c7 := HC1.out.c7
    go_wp2_with fail
    refine HCX.out.mono ?_
    rintro e w2 ⟨rfl, hb⟩
    have HB2 : Hid (Below w.heap.size w w2) := HB1.out.trans (hb.mono HB1.out.size)
    have HC2 := Lib.hid (HC1.out.below hb)
    have HO2 := Lib.hid (HO1.out.below hb)
    clear hb HCX HC1 HO1 HB1 c0 c1 c2 c3 c4 c5 c6 c7
    have HCX := Lib.hid (HSCR.out _ HO2.out)
    have c0 := HC2.out.c0; have c1 := HC2.out.c1; have c2 := HC2.out.c2; have c3 := HC2.out.c3; have c4 := HC2.out.c4; have c5 := HC2.out.c5; have c6 := HC2.out.c6; have c7 := HC2.out.c7
    go_wp2_with fail
    refine HCX.out.mono ?_
    rintro e w3 ⟨rfl, hb⟩
    have HB3 : Hid (Below w.heap.size w w3) := HB2.out.trans (hb.mono HB2.out.size)
    have HC3 := Lib.hid (HC2.out.below hb)
    have HO3 := Lib.hid (HO2.out.below hb)
    clear hb HCX HC2 HO2 HB2 c0 c1 c2 c3 c4 c5 c6 c7
    have HCX := Lib.hid (HDR.out _ HO3.out)
    have c0 := HC3.out.c0; have c1 := HC3.out.c1; have c2 := HC3.out.c2; have c3 := HC3.out.c3; have c4 := HC3.out.c4; have c5 := HC3.out.c5; have c6 := HC3.out.c6; have c7 := HC3.out.c7
    go_wp2_with fail
    refine HCX.out.mono ?_
    rintro e w4 ⟨rfl, hb⟩
    have HB4 : Hid (Below w.heap.size w w4) := HB3.out.trans (hb.mono HB3.out.size)
    have HC4 := Lib.hid (HC3.out.below hb)
    have HO4 := Lib.hid (HO3.out.below hb)
    clear hb HCX HC3 HO3 HB3 c0 c1 c2 c3 c4 c5 c6 c7
    have HCX := Lib.hid (HWR.out _ HO4.out)
    have c0 := HC4.out.c0; have c1 := HC4.out.c1; have c2 := HC4.out.c2; have c3 := HC4.out.c3; have c4 := HC4.out.c4; have c5 := HC4.out.c5; have c6 := HC4.out.c6; have c7 := HC4.out.c7
    go_wp2_with fail
    refine HCX.out.mono ?_
    rintro e w5 ⟨rfl, hb⟩
    have HB5 : Hid (Below w.heap.size w w5) := HB4.out.trans (hb.mono HB4.out.size)
    have HC5 := Lib.hid (HC4.out.below hb)
    have HO5 := Lib.hid (HO4.out.below hb)
    clear hb HCX HC4 HO4 HB4 c0 c1 c2 c3 c4 c5 c6 c7
    clear HFEW HSCR HDR HWR
    rcases HX.out with rfl | rfl | rfl | rfl | rfl | rfl | rfl | rfl
    all_goals
      clear HX
      go_wp2_with fail
      refine (awake_any _).mono ?_
      rintro e w6 ⟨rfl, hb⟩
      have HB6 : Hid (Below w.heap.size w w6) := HB5.out.trans (hb.mono HB5.out.size)
      have HC6 := Lib.hid (HC5.out.below hb)
      have HO6 := Lib.hid (HO5.out.below hb)
      clear hb HC5 HO5 HB5
      have HCX := Lib.hid (HSTP.out _ HO6.out)
      have c0 := HC6.out.c0; have c1 := HC6.out.c1; have c2 := HC6.out.c2; have c3 := HC6.out.c3; have c4 := HC6.out.c4; have c5 := HC6.out.c5; have c6 := HC6.out.c6; have c7 := HC6.out.c7
      go_wp2_with fail
      refine HCX.out.mono ?_
      rintro e w7 ⟨rfl, hb⟩
      have HB7 : Hid (Below w.heap.size w w7) := HB6.out.trans (hb.mono HB6.out.size)
      have HC7 := Lib.hid (HC6.out.below hb)
      have HO7 := Lib.hid (HO6.out.below hb)
      clear hb HCX HC6 HO6 HB6 c0 c1 c2 c3 c4 c5 c6 c7
      have HCX := Lib.hid (HTIC.out _ HO7.out)
      have c0 := HC7.out.c0; have c1 := HC7.out.c1; have c2 := HC7.out.c2; have c3 := HC7.out.c3; have c4 := HC7.out.c4; have c5 := HC7.out.c5; have c6 := HC7.out.c6; have c7 := HC7.out.c7
      go_wp2_with fail
      refine HCX.out.mono ?_
      rintro e w8 ⟨rfl, hb⟩
      have HB8 : Hid (Below w.heap.size w w8) := HB7.out.trans (hb.mono HB7.out.size)
      have HC8 := Lib.hid (HC7.out.below hb)
      have HO8 := Lib.hid (HO7.out.below hb)
      clear hb HCX HC7 HO7 HB7 c0 c1 c2 c3 c4 c5 c6 c7
      have HCX := Lib.hid (HREC.out _ HO8.out)
      have c0 := HC8.out.c0; have c1 := HC8.out.c1; have c2 := HC8.out.c2; have c3 := HC8.out.c3; have c4 := HC8.out.c4; have c5 := HC8.out.c5; have c6 := HC8.out.c6; have c7 := HC8.out.c7
      go_wp2_with fail
      refine HCX.out.mono ?_
      rintro e w9 ⟨rfl, hb⟩
      have HB9 : Hid (Below w.heap.size w w9) := HB8.out.trans (hb.mono HB8.out.size)
      have HC9 := Lib.hid (HC8.out.below hb)
      have HO9 := Lib.hid (HO8.out.below hb)
      clear hb HCX HC8 HO8 HB8 c0 c1 c2 c3 c4 c5 c6 c7
      go_wp2_with fail
      go_ret
      exact ⟨rfl, HB9.out⟩
  rw [wrong_ok hok] at HWR
  rw [(draws_law hok).2] at HDR
  rw [ok_ticks hok] at HTIC
  rw [ok_recs hok] at HREC
  have HRST : Hid (∀ W, Calls Try.prog 12 #[x.val] W fun e w' => e = .returned (.int .i64 (stepI x)) ∧ Below W.heap.size W w') := fun W => rstep_ok x W hok
  have HRDR : Hid (∀ W, CfOk W x → Calls Try.prog 13 #[x.val] W fun e w' => e = .returned (.int .i64 (dwV x)) ∧ Below W.heap.size W w') := fun W hW => rdraws_ok x W hok hW
  have HSL := Lib.hid (@sc_law x n hok)
  have HSB := Lib.hid (@sc_bad x n)
  obtain ⟨_, _, ⟨hc1, hc2⟩, _⟩ := ok_bounds hok
  obtain ⟨b, o, e0, _, _, _, _, _⟩ := cy_at HO1.out.c (k := x.cy.length - 1) (by omega)
  generalize dwV x = dv at *
  generalize stepI x = st at *
  generalize scV x n = sv at *
  generalize scE x n = se at *
  clear hok
  unfold Cfg.val at *
  obtain ⟨ms, Am, cm, ss, As, cs, cy, Ac, cc, line, capi, lead, tr, bids⟩ := x
  dsimp only at *
  subst e0
  by_cases h1 : n < 0
  · obtain ⟨rfl, rfl⟩ := HSB.out (by omega)
    clear HSB HSL
    go_enter Try.func3, Try.ntmps3
    have HCX := Lib.hid (HFEW.out _ HO1.out)
    have c0 := HC1.out.c0; have c1 := HC1.out.c1; have c2 := HC1.out.c2; have c3 := HC1.out.c3; have c4 := HC1.out.c4; have c5 := HC1.out.c5; have c6 := HC1.out.c6; have c7 := HC1.out.c7
    dsimp only at c0 c1 c2 c3 c4 c5 c6 c7
    go_wp2_with fail
    refine HCX.out.mono ?_
    rintro e w2 ⟨rfl, hb⟩
    have HB2 : Hid (Below w.heap.size w w2) := HB1.out.trans (hb.mono HB1.out.size)
    have HC2 := Lib.hid (HC1.out.below hb)
    have HO2 := Lib.hid (HO1.out.below hb)
    clear hb HCX HC1 HO1 HB1 c0 c1 c2 c3 c4 c5 c6 c7
    have HCX := Lib.hid (HSCR.out _ HO2.out)
    have c0 := HC2.out.c0; have c1 := HC2.out.c1; have c2 := HC2.out.c2; have c3 := HC2.out.c3; have c4 := HC2.out.c4; have c5 := HC2.out.c5; have c6 := HC2.out.c6; have c7 := HC2.out.c7
    dsimp only at c0 c1 c2 c3 c4 c5 c6 c7
    go_wp2_with fail
    refine HCX.out.mono ?_
    rintro e w3 ⟨rfl, hb⟩
    have HB3 : Hid (Below w.heap.size w w3) := HB2.out.trans (hb.mono HB2.out.size)
    have HC3 := Lib.hid (HC2.out.below hb)
    have HO3 := Lib.hid (HO2.out.below hb)
    clear hb HCX HC2 HO2 HB2 c0 c1 c2 c3 c4 c5 c6 c7
    have HCX := Lib.hid (HDR.out _ HO3.out)
    have c0 := HC3.out.c0; have c1 := HC3.out.c1; have c2 := HC3.out.c2; have c3 := HC3.out.c3; have c4 := HC3.out.c4; have c5 := HC3.out.c5; have c6 := HC3.out.c6; have c7 := HC3.out.c7
    dsimp only at c0 c1 c2 c3 c4 c5 c6 c7
    go_wp2_with fail
    refine HCX.out.mono ?_
    rintro e w4 ⟨rfl, hb⟩
    have HB4 : Hid (Below w.heap.size w w4) := HB3.out.trans (hb.mono HB3.out.size)
    have HC4 := Lib.hid (HC3.out.below hb)
    have HO4 := Lib.hid (HO3.out.below hb)
    clear hb HCX HC3 HO3 HB3 c0 c1 c2 c3 c4 c5 c6 c7
    have HCX := Lib.hid (HWR.out _ HO4.out)
    have c0 := HC4.out.c0; have c1 := HC4.out.c1; have c2 := HC4.out.c2; have c3 := HC4.out.c3; have c4 := HC4.out.c4; have c5 := HC4.out.c5; have c6 := HC4.out.c6; have c7 := HC4.out.c7
    dsimp only at c0 c1 c2 c3 c4 c5 c6 c7
    go_wp2_with fail
    refine HCX.out.mono ?_
    rintro e w5 ⟨rfl, hb⟩
    have HB5 : Hid (Below w.heap.size w w5) := HB4.out.trans (hb.mono HB4.out.size)
    have HC5 := Lib.hid (HC4.out.below hb)
    have HO5 := Lib.hid (HO4.out.below hb)
    clear hb HCX HC4 HO4 HB4 c0 c1 c2 c3 c4 c5 c6 c7
    clear HFEW HSCR HDR HWR
    obtain ⟨hbb, d3⟩ := cy_last HO5.out.c hc1
    have c0 := HC5.out.c0; have c1 := HC5.out.c1; have c2 := HC5.out.c2; have c3 := HC5.out.c3; have c4 := HC5.out.c4; have c5 := HC5.out.c5; have c6 := HC5.out.c6; have c7 := HC5.out.c7
    have hbx := HC5.out.lt
    dsimp only at c0 c1 c2 c3 c4 c5 c6 c7 d3
    have HD3 := Lib.hid d3
    have KAW : Hid (∀ m : Bel w5.heap.size w5, Calls Try.prog 5 #[] m.wd fun e w' => e = .returned (.bool true) ∧ Below m.wd.heap.size m.wd w') := fun m => awake_any m.wd
    have KRD := Lib.hid (fun m : Bel w5.heap.size w5 => HRDR.out m.wd (HO5.out.below m.h))
    have KST := Lib.hid (fun m : Bel w5.heap.size w5 => HSTP.out m.wd (HO5.out.below m.h))
    have KRS := Lib.hid (fun m : Bel w5.heap.size w5 => HRST.out m.wd)
    have KTI := Lib.hid (fun m : Bel w5.heap.size w5 => HTIC.out m.wd (HO5.out.below m.h))
    have KRE := Lib.hid (fun m : Bel w5.heap.size w5 => HREC.out m.wd (HO5.out.below m.h))
    have hbel := fun (m : Bel w5.heap.size w5) (b o : Nat) (hb : b < w5.heap.size) => m.cells b o hb
    have hc3 : 1 ≤ cy.length := hc1
    have hc4 : cy.length ≤ 4 := hc2
    have hw1 : IntKind.i64.wrap ((cy.length : Int) - 1) = (cy.length : Int) - 1 := IntWalk.i64_in _ (by omega)
    have hw2 : ((cy.length : Int) - 1).toNat = cy.length - 1 := by omega
    have hw3 : (0 : Int) ≤ (cy.length : Int) - 1 := by omega
    have hw4 : (cy.length : Int) - 1 < (cy.length : Int) := by omega
    clear HRDR HSTP HRST HTIC HREC HO5 HC5
    go_wp2_with fail
    refine wp_region_bel w5.heap.size (by kernel_rfl) (by kernel_rfl) ?_
    repeat (go_big_quiet_step ((first | (go_at_call 5; exact Calls.bel_of (Nat.le_refl _) (KAW.out _)) | (go_at_call 13; exact Calls.bel_of (Nat.le_refl _) (KRD.out _)) | (go_at_call 9; exact Calls.bel_of (Nat.le_refl _) (KST.out _)) | (go_at_call 12; exact Calls.bel_of (Nat.le_refl _) (KRS.out _)) | (go_at_call 10; exact Calls.bel_of (Nat.le_refl _) (KTI.out _)) | (go_at_call 11; exact Calls.bel_of (Nat.le_refl _) (KRE.out _)))))
    refine wpQuiet_nil ?_
    intro _ hw'
    obtain ⟨nq, hw''⟩ := hw'
    subst hw''
    have HNQ := Lib.hid nq.h
    have HBZ : Hid (Below w.heap.size w nq.wd) := HB5.out.trans (HNQ.out.mono HB5.out.size)
    clear hw1 hw2 hc3 hc4
    go_wp2_with fail
    go_ret
    exact ⟨rfl, HBZ.out⟩
  by_cases h2 : 1024 < n
  · obtain ⟨rfl, rfl⟩ := HSB.out (by omega)
    clear HSB HSL
    go_enter Try.func3, Try.ntmps3
    have HCX := Lib.hid (HFEW.out _ HO1.out)
    have c0 := HC1.out.c0; have c1 := HC1.out.c1; have c2 := HC1.out.c2; have c3 := HC1.out.c3; have c4 := HC1.out.c4; have c5 := HC1.out.c5; have c6 := HC1.out.c6; have c7 := HC1.out.c7
    dsimp only at c0 c1 c2 c3 c4 c5 c6 c7
    go_wp2_with fail
    refine HCX.out.mono ?_
    rintro e w2 ⟨rfl, hb⟩
    have HB2 : Hid (Below w.heap.size w w2) := HB1.out.trans (hb.mono HB1.out.size)
    have HC2 := Lib.hid (HC1.out.below hb)
    have HO2 := Lib.hid (HO1.out.below hb)
    clear hb HCX HC1 HO1 HB1 c0 c1 c2 c3 c4 c5 c6 c7
    have HCX := Lib.hid (HSCR.out _ HO2.out)
    have c0 := HC2.out.c0; have c1 := HC2.out.c1; have c2 := HC2.out.c2; have c3 := HC2.out.c3; have c4 := HC2.out.c4; have c5 := HC2.out.c5; have c6 := HC2.out.c6; have c7 := HC2.out.c7
    dsimp only at c0 c1 c2 c3 c4 c5 c6 c7
    go_wp2_with fail
    refine HCX.out.mono ?_
    rintro e w3 ⟨rfl, hb⟩
    have HB3 : Hid (Below w.heap.size w w3) := HB2.out.trans (hb.mono HB2.out.size)
    have HC3 := Lib.hid (HC2.out.below hb)
    have HO3 := Lib.hid (HO2.out.below hb)
    clear hb HCX HC2 HO2 HB2 c0 c1 c2 c3 c4 c5 c6 c7
    have HCX := Lib.hid (HDR.out _ HO3.out)
    have c0 := HC3.out.c0; have c1 := HC3.out.c1; have c2 := HC3.out.c2; have c3 := HC3.out.c3; have c4 := HC3.out.c4; have c5 := HC3.out.c5; have c6 := HC3.out.c6; have c7 := HC3.out.c7
    dsimp only at c0 c1 c2 c3 c4 c5 c6 c7
    go_wp2_with fail
    refine HCX.out.mono ?_
    rintro e w4 ⟨rfl, hb⟩
    have HB4 : Hid (Below w.heap.size w w4) := HB3.out.trans (hb.mono HB3.out.size)
    have HC4 := Lib.hid (HC3.out.below hb)
    have HO4 := Lib.hid (HO3.out.below hb)
    clear hb HCX HC3 HO3 HB3 c0 c1 c2 c3 c4 c5 c6 c7
    have HCX := Lib.hid (HWR.out _ HO4.out)
    have c0 := HC4.out.c0; have c1 := HC4.out.c1; have c2 := HC4.out.c2; have c3 := HC4.out.c3; have c4 := HC4.out.c4; have c5 := HC4.out.c5; have c6 := HC4.out.c6; have c7 := HC4.out.c7
    dsimp only at c0 c1 c2 c3 c4 c5 c6 c7
    go_wp2_with fail
    refine HCX.out.mono ?_
    rintro e w5 ⟨rfl, hb⟩
    have HB5 : Hid (Below w.heap.size w w5) := HB4.out.trans (hb.mono HB4.out.size)
    have HC5 := Lib.hid (HC4.out.below hb)
    have HO5 := Lib.hid (HO4.out.below hb)
    clear hb HCX HC4 HO4 HB4 c0 c1 c2 c3 c4 c5 c6 c7
    clear HFEW HSCR HDR HWR
    obtain ⟨hbb, d3⟩ := cy_last HO5.out.c hc1
    have c0 := HC5.out.c0; have c1 := HC5.out.c1; have c2 := HC5.out.c2; have c3 := HC5.out.c3; have c4 := HC5.out.c4; have c5 := HC5.out.c5; have c6 := HC5.out.c6; have c7 := HC5.out.c7
    have hbx := HC5.out.lt
    dsimp only at c0 c1 c2 c3 c4 c5 c6 c7 d3
    have HD3 := Lib.hid d3
    have KAW : Hid (∀ m : Bel w5.heap.size w5, Calls Try.prog 5 #[] m.wd fun e w' => e = .returned (.bool true) ∧ Below m.wd.heap.size m.wd w') := fun m => awake_any m.wd
    have KRD := Lib.hid (fun m : Bel w5.heap.size w5 => HRDR.out m.wd (HO5.out.below m.h))
    have KST := Lib.hid (fun m : Bel w5.heap.size w5 => HSTP.out m.wd (HO5.out.below m.h))
    have KRS := Lib.hid (fun m : Bel w5.heap.size w5 => HRST.out m.wd)
    have KTI := Lib.hid (fun m : Bel w5.heap.size w5 => HTIC.out m.wd (HO5.out.below m.h))
    have KRE := Lib.hid (fun m : Bel w5.heap.size w5 => HREC.out m.wd (HO5.out.below m.h))
    have hbel := fun (m : Bel w5.heap.size w5) (b o : Nat) (hb : b < w5.heap.size) => m.cells b o hb
    have hc3 : 1 ≤ cy.length := hc1
    have hc4 : cy.length ≤ 4 := hc2
    have hw1 : IntKind.i64.wrap ((cy.length : Int) - 1) = (cy.length : Int) - 1 := IntWalk.i64_in _ (by omega)
    have hw2 : ((cy.length : Int) - 1).toNat = cy.length - 1 := by omega
    have hw3 : (0 : Int) ≤ (cy.length : Int) - 1 := by omega
    have hw4 : (cy.length : Int) - 1 < (cy.length : Int) := by omega
    clear HRDR HSTP HRST HTIC HREC HO5 HC5
    go_wp2_with fail
    refine wp_region_bel w5.heap.size (by kernel_rfl) (by kernel_rfl) ?_
    repeat (go_big_quiet_step ((first | (go_at_call 5; exact Calls.bel_of (Nat.le_refl _) (KAW.out _)) | (go_at_call 13; exact Calls.bel_of (Nat.le_refl _) (KRD.out _)) | (go_at_call 9; exact Calls.bel_of (Nat.le_refl _) (KST.out _)) | (go_at_call 12; exact Calls.bel_of (Nat.le_refl _) (KRS.out _)) | (go_at_call 10; exact Calls.bel_of (Nat.le_refl _) (KTI.out _)) | (go_at_call 11; exact Calls.bel_of (Nat.le_refl _) (KRE.out _)))))
    refine wpQuiet_nil ?_
    intro _ hw'
    obtain ⟨nq, hw''⟩ := hw'
    subst hw''
    have HNQ := Lib.hid nq.h
    have HBZ : Hid (Below w.heap.size w nq.wd) := HB5.out.trans (HNQ.out.mono HB5.out.size)
    clear hw1 hw2 hc3 hc4
    go_wp2_with fail
    go_ret
    exact ⟨rfl, HBZ.out⟩
  obtain ⟨rfl, rfl, hp0, hp1⟩ := HSL.out (by omega) (by omega)
  clear HSB HSL
  go_enter Try.func3, Try.ntmps3
  have HCX := Lib.hid (HFEW.out _ HO1.out)
  have c0 := HC1.out.c0; have c1 := HC1.out.c1; have c2 := HC1.out.c2; have c3 := HC1.out.c3; have c4 := HC1.out.c4; have c5 := HC1.out.c5; have c6 := HC1.out.c6; have c7 := HC1.out.c7
  dsimp only at c0 c1 c2 c3 c4 c5 c6 c7
  go_wp2_with fail
  refine HCX.out.mono ?_
  rintro e w2 ⟨rfl, hb⟩
  have HB2 : Hid (Below w.heap.size w w2) := HB1.out.trans (hb.mono HB1.out.size)
  have HC2 := Lib.hid (HC1.out.below hb)
  have HO2 := Lib.hid (HO1.out.below hb)
  clear hb HCX HC1 HO1 HB1 c0 c1 c2 c3 c4 c5 c6 c7
  have HCX := Lib.hid (HSCR.out _ HO2.out)
  have c0 := HC2.out.c0; have c1 := HC2.out.c1; have c2 := HC2.out.c2; have c3 := HC2.out.c3; have c4 := HC2.out.c4; have c5 := HC2.out.c5; have c6 := HC2.out.c6; have c7 := HC2.out.c7
  dsimp only at c0 c1 c2 c3 c4 c5 c6 c7
  go_wp2_with fail
  refine HCX.out.mono ?_
  rintro e w3 ⟨rfl, hb⟩
  have HB3 : Hid (Below w.heap.size w w3) := HB2.out.trans (hb.mono HB2.out.size)
  have HC3 := Lib.hid (HC2.out.below hb)
  have HO3 := Lib.hid (HO2.out.below hb)
  clear hb HCX HC2 HO2 HB2 c0 c1 c2 c3 c4 c5 c6 c7
  have HCX := Lib.hid (HDR.out _ HO3.out)
  have c0 := HC3.out.c0; have c1 := HC3.out.c1; have c2 := HC3.out.c2; have c3 := HC3.out.c3; have c4 := HC3.out.c4; have c5 := HC3.out.c5; have c6 := HC3.out.c6; have c7 := HC3.out.c7
  dsimp only at c0 c1 c2 c3 c4 c5 c6 c7
  go_wp2_with fail
  refine HCX.out.mono ?_
  rintro e w4 ⟨rfl, hb⟩
  have HB4 : Hid (Below w.heap.size w w4) := HB3.out.trans (hb.mono HB3.out.size)
  have HC4 := Lib.hid (HC3.out.below hb)
  have HO4 := Lib.hid (HO3.out.below hb)
  clear hb HCX HC3 HO3 HB3 c0 c1 c2 c3 c4 c5 c6 c7
  have HCX := Lib.hid (HWR.out _ HO4.out)
  have c0 := HC4.out.c0; have c1 := HC4.out.c1; have c2 := HC4.out.c2; have c3 := HC4.out.c3; have c4 := HC4.out.c4; have c5 := HC4.out.c5; have c6 := HC4.out.c6; have c7 := HC4.out.c7
  dsimp only at c0 c1 c2 c3 c4 c5 c6 c7
  go_wp2_with fail
  refine HCX.out.mono ?_
  rintro e w5 ⟨rfl, hb⟩
  have HB5 : Hid (Below w.heap.size w w5) := HB4.out.trans (hb.mono HB4.out.size)
  have HC5 := Lib.hid (HC4.out.below hb)
  have HO5 := Lib.hid (HO4.out.below hb)
  clear hb HCX HC4 HO4 HB4 c0 c1 c2 c3 c4 c5 c6 c7
  clear HFEW HSCR HDR HWR
  have HRSQ : Hid (∀ W, CfOk W ⟨ms, Am, cm, ss, As, cs, cy, some ⟨b, o, none⟩, cc, line, capi, lead, tr, bids⟩ → Calls Try.prog 12 #[.agg #[.slice Am ms.length cm, .slice As ss.length cs, .slice (some ⟨b, o, none⟩) cy.length cc, .int .i64 line, .int .i64 capi, .int .i64 lead, .int .i64 tr, .int .i64 bids]] W fun e w' => e = .returned (.int .i64 st) ∧ Below W.heap.size W w') := fun W _ => HRST.out W
  have HCX := Lib.hid (HRSQ.out _ HO5.out)
  have c0 := HC5.out.c0; have c1 := HC5.out.c1; have c2 := HC5.out.c2; have c3 := HC5.out.c3; have c4 := HC5.out.c4; have c5 := HC5.out.c5; have c6 := HC5.out.c6; have c7 := HC5.out.c7
  dsimp only at c0 c1 c2 c3 c4 c5 c6 c7
  go_wp2_with fail
  refine HCX.out.mono ?_
  rintro e w6 ⟨rfl, hb⟩
  have HB6 : Hid (Below w.heap.size w w6) := HB5.out.trans (hb.mono HB5.out.size)
  have HC6 := Lib.hid (HC5.out.below hb)
  have HO6 := Lib.hid (HO5.out.below hb)
  clear hb HCX HC5 HO5 HB5 c0 c1 c2 c3 c4 c5 c6 c7
  clear HRSQ
  obtain ⟨hbb, d3⟩ := cy_last HO6.out.c hc1
  have c0 := HC6.out.c0; have c1 := HC6.out.c1; have c2 := HC6.out.c2; have c3 := HC6.out.c3; have c4 := HC6.out.c4; have c5 := HC6.out.c5; have c6 := HC6.out.c6; have c7 := HC6.out.c7
  have hbx := HC6.out.lt
  dsimp only at c0 c1 c2 c3 c4 c5 c6 c7 d3
  have HD3 := Lib.hid d3
  have KAW : Hid (∀ m : Bel w6.heap.size w6, Calls Try.prog 5 #[] m.wd fun e w' => e = .returned (.bool true) ∧ Below m.wd.heap.size m.wd w') := fun m => awake_any m.wd
  have KRD := Lib.hid (fun m : Bel w6.heap.size w6 => HRDR.out m.wd (HO6.out.below m.h))
  have KST := Lib.hid (fun m : Bel w6.heap.size w6 => HSTP.out m.wd (HO6.out.below m.h))
  have KRS := Lib.hid (fun m : Bel w6.heap.size w6 => HRST.out m.wd)
  have KTI := Lib.hid (fun m : Bel w6.heap.size w6 => HTIC.out m.wd (HO6.out.below m.h))
  have KRE := Lib.hid (fun m : Bel w6.heap.size w6 => HREC.out m.wd (HO6.out.below m.h))
  have hbel := fun (m : Bel w6.heap.size w6) (b o : Nat) (hb : b < w6.heap.size) => m.cells b o hb
  have hc3 : 1 ≤ cy.length := hc1
  have hc4 : cy.length ≤ 4 := hc2
  have hw1 : IntKind.i64.wrap ((cy.length : Int) - 1) = (cy.length : Int) - 1 := IntWalk.i64_in _ (by omega)
  have hw2 : ((cy.length : Int) - 1).toNat = cy.length - 1 := by omega
  have hw3 : (0 : Int) ≤ (cy.length : Int) - 1 := by omega
  have hw4 : (cy.length : Int) - 1 < (cy.length : Int) := by omega
  clear HRDR HSTP HRST HTIC HREC HO6 HC6
  go_wp2_with fail
  refine wp_region_bel w6.heap.size (by kernel_rfl) (by kernel_rfl) ?_
  repeat (go_big_quiet_step ((first | (go_at_call 5; exact Calls.bel_of (Nat.le_refl _) (KAW.out _)) | (go_at_call 13; exact Calls.bel_of (Nat.le_refl _) (KRD.out _)) | (go_at_call 9; exact Calls.bel_of (Nat.le_refl _) (KST.out _)) | (go_at_call 12; exact Calls.bel_of (Nat.le_refl _) (KRS.out _)) | (go_at_call 10; exact Calls.bel_of (Nat.le_refl _) (KTI.out _)) | (go_at_call 11; exact Calls.bel_of (Nat.le_refl _) (KRE.out _)))))
  refine wpQuiet_nil ?_
  intro _ hw'
  obtain ⟨nq, hw''⟩ := hw'
  subst hw''
  have HNQ := Lib.hid nq.h
  have HBZ : Hid (Below w.heap.size w nq.wd) := HB6.out.trans (HNQ.out.mono HB6.out.size)
  clear hw1 hw2 hc3 hc4
  go_wp2_with fail
  go_ret
  exact ⟨rfl, HBZ.out⟩
end Go.Proofs.Ytedmbmfppjokpaa
