/-
  What complineref11.Right and Put come to, over this seat's translation: contracts for callers.
-/
import Derived.Test.YtmplokdbbhlomaaGreatDoorSr4
import Derived.StillTailTactics
import Derived.Test.YtmplokdbbhlomaaGreatDoorBel
namespace Go.Proofs.YtmplokdbbhlomaaGreatDoor
open Go.RowKit

/-- The rest of a command behind k letters. -/
def rkOf (c : Cm) (k : Nat) : Cm := ((jsOf c.k).take k).foldl (fun d j => Cm.set d j 0) { c with k := 0 }
theorem rk_all {c : Cm} (h : isK c.k = true) : decide (rkOf c (jsOf c.k).length = zeroC) = rightC c := by
  unfold rkOf
  rw [List.take_length]
  exact rest_right h
theorem rk_step (c : Cm) {i : Nat} (hi : i < (jsOf c.k).length) : rkOf c (i + 1) = (rkOf c i).set ((jsOf c.k)[i]) 0 := rest_step _ _ hi
theorem right_none {c : Cm} (h : isK c.k = false) : rightC c = false := by unfold rightC; rw [h]; rfl
theorem letters_nonel {k : Int} : (lettersOf k == [63]) = !isK k := by
  by_cases h : isK k = true
  · rw [h]
    rcases isK_cases h with rfl | rfl | rfl | rfl | rfl | rfl | rfl | rfl | rfl | rfl
    all_goals decide
  · have h2 : isK k = false := by simpa using h
    unfold lettersOf
    rw [h2, if_neg (by decide)]
    decide
set_option maxRecDepth 100000 in
set_option maxHeartbeats 6400000 in
theorem rright_any (c : Cm) (w : World) : Calls Tryz.prog 21 #[cmV c] w fun e w' => e = .returned (.bool (rightC c)) ∧ Below w.heap.size w w' := by
  have HH := Lib.hid (fun W => rhas_any c.k W)
  have HB0 : Hid (Below w.heap.size w (w.alloc (.cells (cmCells c) TC))) := Lib.hid ((Below.refl _ _).alloc (Nat.le_refl _) _)
  have HC0 := Lib.hid (CmAt.made w c)
  have hz0 : w.heap.size < (w.alloc (.cells (cmCells c) TC)).heap.size := by simp
  have hcc : cmCells c = #[.int .i64 c.k, .int .i64 c.i, .int .i64 c.m, .int .i64 c.o, .int .i64 c.s, .int .i64 c.q, .int .i64 c.p] := rfl
  obtain ⟨R, HR⟩ : ∃ R, Hid (R = rightC c) := ⟨_, Lib.hid rfl⟩
  rw [← HR.out]
  have hq0 := letters_nonel (k := c.k)
  unfold cmV
  rw [hcc] at HB0 HC0 hz0
  cases hk : isK c.k with
  | false =>
    have hq1 : (lettersOf c.k == [63]) = true := by rw [hq0, hk]; rfl
    have HF : Hid (R = false) := Lib.hid (by rw [HR.out]; exact right_none hk)
    clear hq0 hk
    generalize lettersOf c.k = ls at *
    go_enter Tryz.func21, Tryz.ntmps21
    go_wp2_with (go_at_call 31; refine (HH.out _).mono ?_; rintro e w1 ⟨rfl, hb⟩; have HB1 := Lib.hid hb; clear hb)
    go_ret
    exact ⟨by rw [HF.out]; rfl, HB0.out.trans (HB1.out.mono HB0.out.size)⟩
  | true =>
    have hq1 : (lettersOf c.k == [63]) = false := by rw [hq0, hk]; rfl
    have HAT : Hid (∀ i (hi : i < (jsOf c.k).length) (hb : i < (bs (lettersOf c.k)).size), ∃ x, (bs (lettersOf c.k))[i]'hb = x ∧ x.toNat = lett ((jsOf c.k)[i])) := Lib.hid fun i hi _ => letters_at hk hi
    have HRA : Hid (decide (rkOf c (jsOf c.k).length = zeroC) = R) := Lib.hid (by rw [HR.out]; exact rk_all hk)
    have hlen : (bs (lettersOf c.k)).size = (jsOf c.k).length := by rw [bs_size, letters_len hk]
    have hl6 := jsOf_len c.k
    have HJL := Lib.hid (fun i (hi : i < (jsOf c.k).length) => jsOf_lt (k := c.k) (List.getElem_mem hi))
    have HST := Lib.hid (fun i (hi : i < (jsOf c.k).length) => rk_step c hi)
    clear hq0 hk
    have HR0 : Hid (rkOf c 0 = { c with k := 0 }) := Lib.hid rfl
    generalize lettersOf c.k = ls at *
    go_enter Tryz.func21, Tryz.ntmps21
    go_wp2_with (go_at_call 31; refine (HH.out _).mono ?_; rintro e w1 ⟨rfl, hb⟩; have HB1 : Hid (Below w.heap.size w w1) := Lib.hid (HB0.out.trans (hb.mono HB0.out.size)); have HC1 := Lib.hid (HC0.out.below hb); clear hb; have c0 := HC1.out.cell 0; have c1 := HC1.out.cell 1; have c2 := HC1.out.cell 2; have c3 := HC1.out.cell 3; have c4 := HC1.out.cell 4; have c5 := HC1.out.cell 5; have c6 := HC1.out.cell 6)
    have HM := Lib.hid (CmAt.made w1 { c with k := 0 })
    have hcz : cmCells { c with k := 0 } = #[.int .i64 0, .int .i64 c.i, .int .i64 c.m, .int .i64 c.o, .int .i64 c.s, .int .i64 c.q, .int .i64 c.p] := rfl
    rw [hcz] at HM
    have HBM : Hid (Below w.heap.size w (w1.alloc (.cells #[.int .i64 0, .int .i64 c.i, .int .i64 c.m, .int .i64 c.o, .int .i64 c.s, .int .i64 c.q, .int .i64 c.p] TC))) := Lib.hid (HB1.out.alloc HB1.out.size _)
    have hbb : w.heap.size ≤ w1.heap.size := HB1.out.size
    clear c0 c1 c2 c3 c4 c5 c6 HC0 HC1 hz0 HB0 hcz hcc
    generalize (w1.alloc (.cells #[.int .i64 0, .int .i64 c.i, .int .i64 c.m, .int .i64 c.o, .int .i64 c.s, .int .i64 c.q, .int .i64 c.p] TC)) = w2 at *
    generalize w1.heap.size = bb at *
    go_loopw [5] (fun i wr => ∃ k : Nat, k ≤ (jsOf c.k).length ∧ i = .int .i64 k ∧ Hid (CmAt wr bb (rkOf c k)) ∧ Hid (Below w.heap.size w wr)) (fun i _ => (jsOf c.k).length - (intOf i).toNat)
    case atStart => exact ⟨0, Nat.zero_le _, rfl, by rw [HR0.out]; exact HM, HBM⟩
    case round =>
      obtain ⟨k, hk, rfl, HCk, HB⟩ := hrel
      by_cases hlt : k < (jsOf c.k).length
      · have hkb : k < (bs ls).size := by rw [hlen]; exact hlt
        have hge : decide ((k : Int) < ((jsOf c.k).length : Int)) = true := decide_eq_true (by omega)
        obtain ⟨x, hx, hxl⟩ := HAT.out k hlt hkb
        have HST2 := Lib.hid (HST.out k hlt)
        have hj := HJL.out k hlt
        clear HAT HJL HST
        generalize (jsOf c.k)[k] = j at *
        generalize (jsOf c.k).length = n at *
        obtain ⟨D, hD⟩ : ∃ D, D = rkOf c k := ⟨_, rfl⟩
        rw [← hD] at HCk HST2
        have HWI := Lib.hid (fun W => with_any D j hj 0 W)
        unfold cmV at HWI
        clear hD
        generalize D.set j 0 = G at *
        have c0 : wr.cell? ⟨bb, 0, none⟩ = some (.int .i64 D.k) := HCk.out.cell 0
        have c1 : wr.cell? ⟨bb, 1, none⟩ = some (.int .i64 D.i) := HCk.out.cell 1
        have c2 : wr.cell? ⟨bb, 2, none⟩ = some (.int .i64 D.m) := HCk.out.cell 2
        have c3 : wr.cell? ⟨bb, 3, none⟩ = some (.int .i64 D.o) := HCk.out.cell 3
        have c4 : wr.cell? ⟨bb, 4, none⟩ = some (.int .i64 D.s) := HCk.out.cell 4
        have c5 : wr.cell? ⟨bb, 5, none⟩ = some (.int .i64 D.q) := HCk.out.cell 5
        have c6 : wr.cell? ⟨bb, 6, none⟩ = some (.int .i64 D.p) := HCk.out.cell 6
        generalize lett j = lj at *
        go_wp2_with fail
        go_still_tail 4, (by kernel_rfl)
        change wpList _ _ _ _ _ wr.drew
        have HCD : Hid (CmAt wr.drew bb D) := Lib.hid (HCk.out.below (Below.refl _ _).drew)
        have HBD : Hid (Below w.heap.size w wr.drew) := Lib.hid HB.out.drew
        clear c0 c1 c2 c3 c4 c5 c6
        generalize wr.drew = w3 at *
        go_wp2_with (go_at_call 50; refine (HWI.out _).mono ?_; rintro e w4 ⟨rfl, hb⟩; have HB4 : Hid (Below w.heap.size w w4) := Lib.hid (HBD.out.trans (hb.mono HBD.out.size)); have HC4 := Lib.hid (HCD.out.below hb); clear hb; have d0 : w4.cell? ⟨bb, 0, none⟩ = some (.int .i64 D.k) := HC4.out.cell 0; have d1 : w4.cell? ⟨bb, 1, none⟩ = some (.int .i64 D.i) := HC4.out.cell 1; have d2 : w4.cell? ⟨bb, 2, none⟩ = some (.int .i64 D.m) := HC4.out.cell 2; have d3 : w4.cell? ⟨bb, 3, none⟩ = some (.int .i64 D.o) := HC4.out.cell 3; have d4 : w4.cell? ⟨bb, 4, none⟩ = some (.int .i64 D.s) := HC4.out.cell 4; have d5 : w4.cell? ⟨bb, 5, none⟩ = some (.int .i64 D.q) := HC4.out.cell 5; have d6 : w4.cell? ⟨bb, 6, none⟩ = some (.int .i64 D.p) := HC4.out.cell 6; have hfz := HC4.out.fz)
        have HOV := Lib.hid (HC4.out.over G)
        go_roundw
        case rel => exact ⟨k + 1, by omega, by go_num, by rw [HST2.out]; exact Lib.hid HOV.out.1, Lib.hid (HB4.out.grown HOV.out.2 HB4.out.size (fun q hq => by injection hq with hq; omega))⟩
        case measure => simp [intOf]; omega
      · obtain rfl : k = (jsOf c.k).length := by omega
        have HRR := Lib.hid HRA.out
        have heq := eqC_zero (rkOf c (jsOf c.k).length)
        rw [HRR.out] at heq
        generalize rkOf c (jsOf c.k).length = D at *
        have c0 : wr.cell? ⟨bb, 0, none⟩ = some (.int .i64 D.k) := HCk.out.cell 0
        have c1 : wr.cell? ⟨bb, 1, none⟩ = some (.int .i64 D.i) := HCk.out.cell 1
        have c2 : wr.cell? ⟨bb, 2, none⟩ = some (.int .i64 D.m) := HCk.out.cell 2
        have c3 : wr.cell? ⟨bb, 3, none⟩ = some (.int .i64 D.o) := HCk.out.cell 3
        have c4 : wr.cell? ⟨bb, 4, none⟩ = some (.int .i64 D.s) := HCk.out.cell 4
        have c5 : wr.cell? ⟨bb, 5, none⟩ = some (.int .i64 D.q) := HCk.out.cell 5
        have c6 : wr.cell? ⟨bb, 6, none⟩ = some (.int .i64 D.p) := HCk.out.cell 6
        go_wp2_with fail
        go_ret
        exact ⟨rfl, HB.out⟩
end Go.Proofs.YtmplokdbbhlomaaGreatDoor
