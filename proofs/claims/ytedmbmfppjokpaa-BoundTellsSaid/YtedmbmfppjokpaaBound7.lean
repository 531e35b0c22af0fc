/-
  What complinelaw35.awake comes to, over this seat's translation; and the document's answers in the program's own words.
-/
import Derived.Test.YtedmbmfppjokpaaBound3
import Derived.Test.YtedmbmfppjokpaaBound5
import Derived.Test.YtedmbmfppjokpaaBound6
namespace Go.Proofs.Ytedmbmfppjokpaa
open Go.RowKit

section
variable (Am : Option Addr) (cm : Nat) (As : Option Addr) (cs : Nat) (Ac : Option Addr) (cc : Nat)
theorem x0_ok : okB (⟨[⟨1000, 100⟩, ⟨1000, 100⟩], Am, cm, [⟨10, 12⟩], As, cs, [⟨4, 7, 9, 10⟩], Ac, cc, 500, 200, 1, 64, 32⟩ : Cfg) = true := by simp [okB, membsB, membB, secsB, secB, cyclesB, inB, risesB, lastI, ticksL]
theorem x0_step : stepI (⟨[⟨1000, 100⟩, ⟨1000, 100⟩], Am, cm, [⟨10, 12⟩], As, cs, [⟨4, 7, 9, 10⟩], Ac, cc, 500, 200, 1, 64, 32⟩ : Cfg) = 136 := by unfold stepI; rw [if_pos (x0_ok Am cm As cs Ac cc)]; rfl
theorem x0_ticks : ticksI (⟨[⟨1000, 100⟩, ⟨1000, 100⟩], Am, cm, [⟨10, 12⟩], As, cs, [⟨4, 7, 9, 10⟩], Ac, cc, 500, 200, 1, 64, 32⟩ : Cfg) = 10 := by unfold ticksI; rw [if_pos (x0_ok Am cm As cs Ac cc)]; rfl
theorem x0_sc : scV (⟨[⟨1000, 100⟩, ⟨1000, 100⟩], Am, cm, [⟨10, 12⟩], As, cs, [⟨4, 7, 9, 10⟩], Ac, cc, 500, 200, 1, 64, 32⟩ : Cfg) 2 = 272 ∧ scE (⟨[⟨1000, 100⟩, ⟨1000, 100⟩], Am, cm, [⟨10, 12⟩], As, cs, [⟨4, 7, 9, 10⟩], Ac, cc, 500, 200, 1, 64, 32⟩ : Cfg) 2 = 0 := by
  obtain ⟨h1, h2⟩ := sc_ok (x := (⟨[⟨1000, 100⟩, ⟨1000, 100⟩], Am, cm, [⟨10, 12⟩], As, cs, [⟨4, 7, 9, 10⟩], Ac, cc, 500, 200, 1, 64, 32⟩ : Cfg)) (n := 2) ⟨x0_ok Am cm As cs Ac cc, by decide, by decide⟩
  rw [h1, h2, x0_step]
  exact amt_in (by unfold I64; omega)
end
set_option maxRecDepth 100000 in
set_option maxHeartbeats 1600000 in
theorem awake_any (w : World) : Calls Try.prog 5 #[] w fun e w' => e = .returned (.bool true) ∧ Below w.heap.size w w' := by
  go_enter Try.func5, Try.ntmps5
  go_wp2_with fail
  refine (plain_any _).mono ?_
  rintro e w1 ⟨Am, cm, As, cs, Ac, cc, rfl, hok, hb⟩
  have HB1 := Lib.hid hb
  have HBX := Lib.hid (box_below w1 (⟨[⟨1000, 100⟩, ⟨1000, 100⟩], Am, cm, [⟨10, 12⟩], As, cs, [⟨4, 7, 9, 10⟩], Ac, cc, 500, 200, 1, 64, 32⟩ : Cfg))
  have HC := Lib.hid (cf_new w1 (⟨[⟨1000, 100⟩, ⟨1000, 100⟩], Am, cm, [⟨10, 12⟩], As, cs, [⟨4, 7, 9, 10⟩], Ac, cc, 500, 200, 1, 64, 32⟩ : Cfg))
  have HOK := Lib.hid (hok.below HBX.out)
  have HSC := Lib.hid (x0_sc Am cm As cs Ac cc)
  have HST := Lib.hid (x0_step Am cm As cs Ac cc)
  have HTI := Lib.hid (x0_ticks Am cm As cs Ac cc)
  clear hok hb
  unfold Cfg.val
  have HW2 : Hid (Below w.heap.size w (w1.alloc (.cells (Cfg.vals (⟨[⟨1000, 100⟩, ⟨1000, 100⟩], Am, cm, [⟨10, 12⟩], As, cs, [⟨4, 7, 9, 10⟩], Ac, cc, 500, 200, 1, 64, 32⟩ : Cfg)) 26))) := HB1.out.trans (HBX.out.mono HB1.out.size)
  unfold Cfg.vals at HW2
  dsimp only [List.length_cons, List.length_nil, Nat.zero_add, Nat.reduceAdd] at HBX HC HOK HSC HST HTI HW2 ⊢
  have HSCR := Lib.hid (script_any _ 2 _ (by unfold I64; omega) HOK.out (by simp) (by simp) (by simp))
  unfold Cfg.val at HSCR
  rw [HSC.out.1, HSC.out.2] at HSCR
  dsimp only [List.length_cons, List.length_nil, Nat.zero_add, Nat.reduceAdd] at HSCR
  go_wp2_with fail
  refine HSCR.out.mono ?_
  rintro e w3 ⟨rfl, hb⟩
  have HB3 : Hid (Below w.heap.size w w3) := HW2.out.trans (hb.mono HW2.out.size)
  have HC3 := Lib.hid (HC.out.below hb)
  have HOK3 := Lib.hid (HOK.out.below hb)
  clear hb HSCR HC HOK HW2 HBX
  have HSTP := Lib.hid (bstep_any _ _ HOK3.out (by simp) (by simp) (by simp))
  unfold Cfg.val at HSTP
  rw [HST.out] at HSTP
  have c0 := HC3.out.c0; have c1 := HC3.out.c1; have c2 := HC3.out.c2; have c3 := HC3.out.c3; have c4 := HC3.out.c4; have c5 := HC3.out.c5; have c6 := HC3.out.c6; have c7 := HC3.out.c7
  dsimp only [List.length_cons, List.length_nil, Nat.zero_add, Nat.reduceAdd] at HSTP c0 c1 c2 c3 c4 c5 c6 c7
  go_wp2_with fail
  refine HSTP.out.mono ?_
  rintro e w4 ⟨rfl, hb⟩
  have HB4 : Hid (Below w.heap.size w w4) := HB3.out.trans (hb.mono HB3.out.size)
  have HC4 := Lib.hid (HC3.out.below hb)
  have HOK4 := Lib.hid (HOK3.out.below hb)
  clear hb HSTP HC3 HOK3 c0 c1 c2 c3 c4 c5 c6 c7
  have HTP := Lib.hid (bticks_any _ _ HOK4.out (by simp) (by simp) (by simp))
  unfold Cfg.val at HTP
  rw [HTI.out] at HTP
  have c0 := HC4.out.c0; have c1 := HC4.out.c1; have c2 := HC4.out.c2; have c3 := HC4.out.c3; have c4 := HC4.out.c4; have c5 := HC4.out.c5; have c6 := HC4.out.c6; have c7 := HC4.out.c7
  dsimp only [List.length_cons, List.length_nil, Nat.zero_add, Nat.reduceAdd] at HTP c0 c1 c2 c3 c4 c5 c6 c7
  go_wp2_with fail
  refine HTP.out.mono ?_
  rintro e w5 ⟨rfl, hb⟩
  have HB5 : Hid (Below w.heap.size w w5) := HB4.out.trans (hb.mono HB4.out.size)
  clear hb HTP c0 c1 c2 c3 c4 c5 c6 c7
  go_wp2_with fail
  go_ret
  exact ⟨rfl, HB5.out⟩

theorem sumL_eq : ∀ l : List Int, sumL l = sumI l
  | [] => rfl
  | a :: l => by simp only [sumL, sumI, sumL_eq l]
/-- The document's step is the program's, of a house that may be. -/
theorem step_law {x : Cfg} (h : okB x = true) : 2 * x.bids + 12 * (((x.ms.length + 1) * (x.ss.length + 1) : Nat) : Int) = stepI x := by
  unfold stepI
  rw [if_pos h, Int.natCast_mul, Int.mul_assoc]
  have e1 : ((1 : Nat) : Int) = 1 := rfl
  simp only [Int.natCast_add, e1]
  omega
theorem rstep_ok (x : Cfg) (w : World) (h : okB x = true) : Calls Try.prog 12 #[x.val] w fun e w' => e = .returned (.int .i64 (stepI x)) ∧ Below w.heap.size w w' := by
  obtain ⟨b0, b1, b2, b3⟩ := ok_bounds h
  rw [← step_law h]
  exact rstep_any x w (by omega) (by omega) (by omega) (by omega)
theorem draws_law {x : Cfg} (h : okB x = true) : dwV x = x.line + x.capi + sumL (sumF x.ms) ∧ dwE x = 0 := by
  obtain ⟨h1, h2⟩ := dw_ok h
  obtain ⟨g1, g2, g3⟩ := ok_memb h
  obtain ⟨b0, _⟩ := ok_bounds h
  have hb := sumF_bd x.ms g1
  have e : sumI (dvL x x.ms.length) = x.line + x.capi + sumL (sumF x.ms) := by
    unfold dvL sumF
    rw [List.take_length, sumL_eq]
    simp only [sumI]
    omega
  rw [h1, h2, e]
  exact amt_in (by unfold I64; omega)
theorem rdraws_ok (x : Cfg) (w : World) (h : okB x = true) (hc : CfOk w x) : Calls Try.prog 13 #[x.val] w fun e w' => e = .returned (.int .i64 (dwV x)) ∧ Below w.heap.size w w' := by
  obtain ⟨b0, _⟩ := ok_bounds h
  obtain ⟨g1, g2, g3⟩ := ok_memb h
  rw [(draws_law h).1]
  exact rdraws_any x w hc (by omega) g1 g2.1 g2.2 g3.1 g3.2
theorem sc_law {x : Cfg} {n : Int} (h : okB x = true) (h0 : 0 ≤ n) (h1 : n ≤ 1024) : scV x n = n * stepI x ∧ scE x n = 0 ∧ 0 ≤ n * stepI x ∧ n * stepI x ≤ 1024 * 2000 := by
  obtain ⟨e1, e2⟩ := sc_ok (x := x) (n := n) ⟨h, h0, h1⟩
  obtain ⟨b0, b1, b2, b3⟩ := ok_bounds h
  have hs : 0 ≤ stepI x ∧ stepI x ≤ 2000 := by
    rw [← step_law h]
    have : (x.ms.length + 1) * (x.ss.length + 1) ≤ 17 * 9 := Nat.mul_le_mul (by omega) (by omega)
    omega
  have hp0 : 0 ≤ n * stepI x := Int.mul_nonneg h0 hs.1
  have hp1 : n * stepI x ≤ 1024 * 2000 := Int.mul_le_mul h1 hs.2 hs.1 (by omega)
  rw [e1, e2]
  obtain ⟨a1, a2⟩ := amt_in (x := n * stepI x) (by unfold I64; omega)
  exact ⟨a1, a2, hp0, hp1⟩
theorem ok_ticks {x : Cfg} (h : okB x = true) : ticksI x = lastT x.cy := by unfold ticksI; rw [if_pos h]
theorem ok_recs {x : Cfg} (h : okB x = true) : recsI x = 116508 := by unfold recsI; rw [if_pos h]
theorem bad_all {x : Cfg} (h : okB x = false) (n : Int) : scV x n = 0 ∧ scE x n = 1 ∧ dwV x = 0 ∧ dwE x = 1 ∧ stepI x = 0 ∧ ticksI x = 0 ∧ recsI x = 0 := by
  obtain ⟨h1, h2⟩ := sc_bad (x := x) (n := n) (by rw [h]; simp)
  obtain ⟨h3, h4⟩ := dw_bad h
  refine ⟨h1, h2, h3, h4, ?_, ?_, ?_⟩
  · unfold stepI; rw [h]; rfl
  · unfold ticksI; rw [h]; rfl
  · unfold recsI; rw [h]; rfl
end Go.Proofs.Ytedmbmfppjokpaa
