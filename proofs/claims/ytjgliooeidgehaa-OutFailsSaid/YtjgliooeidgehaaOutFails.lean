/-
  The law OutFails returns true, over this seat's translation: its walk.
-/
import Derived.Test.YtjgliooeidgehaaOut5
import Derived.Deep.RegionHeld3
namespace Go.Proofs.Ytjgliooeidgehaa
open Go.RowKit

theorem puts_take (pre zs : List Int) {k : Nat} (hk : k < zs.length) : putsL (pre ++ zs.take (k + 1)) = putL (putsL (pre ++ zs.take k)) zs[k] := by
  rw [List.take_succ_eq_append_getElem hk, ← List.append_assoc, puts_snoc]
theorem puts_take0 (zs : List Int) {k : Nat} (hk : k < zs.length) : putsL (zs.take (k + 1)) = putL (putsL (zs.take k)) zs[k] := puts_take [] zs hk
theorem puts_le (zs : List Int) : (putsL zs).length ≤ zs.length := by
  have := puts_len zs []
  simpa [putsL] using this
/-- What has been put together so far. -/
def BothAt (w0 : World) (u : Value) (wr : World) (zs : List Int) : Prop := (∃ A c, u = .slice A (putsL zs).length c ∧ Seg wr wr.heap.size A ((putsL zs).map (Value.int .i64))) ∧ Below w0.heap.size w0 wr
set_option maxRecDepth 100000 in
set_option maxHeartbeats 3200000 in
theorem fails_any (L : List Ob) (A : Option Addr) (c : Nat) (z1 z2 : List Int) (A1 A2 : Option Addr) (c1 c2 : Nat) (m : Int) (w : World) (hs : Seg w w.heap.size A (obRows L)) (h1 : SrcAt w A1 c1 z1) (h2 : SrcAt w A2 c2 z2) (hm0 : L.length ≤ maxLen) (hm1 : z1.length ≤ maxLen) (hm2 : z2.length ≤ maxLen) :
    Calls Try.prog 3 #[.slice A L.length c, .agg #[.slice A1 z1.length c1, .slice A2 z2.length c2], .int .i64 m] w fun e w' => e = .returned (.bool true) ∧ Below w.heap.size w w' := by
  unfold maxLen at hm0 hm1 hm2
  have hb : Below w.heap.size w (w.alloc (.cells #[.slice A1 z1.length c1, .slice A2 z2.length c2] 24)) := (Below.refl _ _).alloc (Nat.le_refl _) _
  have HB0 := Lib.hid hb
  have HS := Lib.hid hs
  have H1 := Lib.hid h1
  have H2 := Lib.hid h2
  clear hs h1 h2 hb
  by_cases hbig : 60 < L.length ∨ 30 < z1.length ∨ 30 < z2.length
  · have hw : decide ((60 : Int) < (L.length : Int)) = true ∨ decide ((60 : Int) < (L.length : Int)) = false ∧ (decide ((30 : Int) < (z1.length : Int)) = true ∨ decide ((30 : Int) < (z1.length : Int)) = false ∧ decide ((30 : Int) < (z2.length : Int)) = true) := by
      simp only [decide_eq_true_eq, decide_eq_false_iff_not]
      omega
    clear hbig
    rcases hw with q1 | ⟨q1, q2 | ⟨q2, q3⟩⟩
    all_goals
      go_enter Try.func3, Try.ntmps3
      go_wp2_with fail
      refine (awake_any _).mono ?_
      rintro e w1 ⟨rfl, hb1⟩
      have HB1 : Hid (Below w.heap.size w w1) := HB0.out.trans (hb1.mono (by simp))
      clear hb1
      go_wp2_with fail
      go_ret
      exact ⟨rfl, HB1.out⟩
  · have q1 : L.length ≤ 60 := by omega
    have q2 : z1.length ≤ 30 := by omega
    have q3 : z2.length ≤ 30 := by omega
    clear hbig
    have HX0 : Hid ((w.alloc (.cells #[.slice A1 z1.length c1, .slice A2 z2.length c2] 24)).cell? ⟨w.heap.size, 0, none⟩ = some (.slice A1 z1.length c1) ∧ (w.alloc (.cells #[.slice A1 z1.length c1, .slice A2 z2.length c2] 24)).cell? ⟨w.heap.size, 1, none⟩ = some (.slice A2 z2.length c2)) := ⟨by rw [cell_new _ _ _ _ rfl]; rfl, by rw [cell_new _ _ _ _ rfl]; rfl⟩
    have hz0 : w.heap.size < (w.alloc (.cells #[.slice A1 z1.length c1, .slice A2 z2.length c2] 24)).heap.size := by simp
    have HZ1 := Lib.hid (H1.out.seg.below HB0.out)
    have HZ2 := Lib.hid (H2.out.seg.below HB0.out)
    have HZL := Lib.hid (HS.out.below HB0.out)
    have HN1 := Lib.hid H1.out.nil
    have HN2 := Lib.hid H2.out.nil
    clear H1 H2 HS
    go_enter Try.func3, Try.ntmps3
    go_wp2_with fail
    generalize (w.alloc (.cells #[.slice A1 z1.length c1, .slice A2 z2.length c2] 24)) = W0 at *
    generalize hbx : w.heap.size = bx at *
    have HBX := Lib.hid hbx
    clear hbx
    obtain ⟨x0, x1⟩ := HX0.out
    refine wp_loop_rounds 3 ?_
    rw [rounds_succ]
    go_wp2_with fail
    go_loopw [7, 9] (fun u i wr => ∃ k : Nat, k ≤ z1.length ∧ i = .int .i64 k ∧ Hid (BothAt W0 u wr (z1.take k))) (fun _ i _ => z1.length - (intOf i).toNat)
    case atStart => exact ⟨0, Nat.zero_le _, rfl, ⟨⟨none, 0, rfl, Seg.nil⟩, Below.refl _ _⟩⟩
    case round =>
      obtain ⟨k, hk, rfl, HR⟩ := hrel
      obtain ⟨⟨Ab, cb, rfl, hsb⟩, hbr⟩ := HR.out
      have HSB := Lib.hid hsb
      have HBR := Lib.hid hbr
      have hzr := hbr.size
      have y0 := (hbr.cell (p := ⟨bx, 0, none⟩) hz0).trans x0
      have y1 := (hbr.cell (p := ⟨bx, 1, none⟩) hz0).trans x1
      clear hsb hbr
      by_cases hlt : k < z1.length
      · obtain ⟨b, o, rfl, hb, d0⟩ := int_at ((HZ1.out.mono (Nat.le_of_lt hz0)).below HBR.out) hlt
        have HPT := Lib.hid (puts_take0 z1 hlt)
        have hpl := puts_le (z1.take k)
        have hpl2 : (z1.take k).length ≤ 100 := by simp; omega
        generalize putsL (z1.take k) = ys at *
        go_wp2_with fail
        refine (iput_any ys Ab cb z1[k] _ HSB.out (by omega)).mono ?_
        rintro e w3 ⟨A3, c3, rfl, hs3, hb3⟩
        rw [← HPT.out] at hs3 ⊢
        have HS3 : Hid (BothAt W0 (.slice A3 (putsL (z1.take (k + 1))).length c3) w3 (z1.take (k + 1))) := ⟨⟨A3, c3, rfl, hs3⟩, HBR.out.trans (hb3.mono hzr)⟩
        clear hs3 hb3 y0 y1 d0
        go_wp2_with fail
        go_roundw
        case rel => exact ⟨k + 1, by omega, by go_num, HS3⟩
        case measure => simp [intOf]; omega
      · obtain rfl : k = z1.length := by omega
        have HB1 : Hid (BothAt W0 (.slice Ab (putsL (z1.take z1.length)).length cb) wr (z1 ++ z2.take 0)) := by
          show BothAt _ _ _ _
          rw [List.take_zero, List.append_nil, List.take_length]
          refine ⟨⟨Ab, cb, rfl, ?_⟩, HBR.out⟩
          have := HSB.out
          rw [List.take_length] at this
          exact this
        clear HSB
        generalize Value.slice Ab (putsL (z1.take z1.length)).length cb = ub at *
        go_wp2_with fail
        rw [rounds_succ]
        go_wp2_with fail
        clear y0 y1 hzr
        obtain ⟨wp, rfl⟩ : ∃ wp : World, wp = wr := ⟨_, rfl⟩
        go_loopw [7, 9] (fun u i wr => ∃ k : Nat, k ≤ z2.length ∧ i = .int .i64 k ∧ Hid (BothAt W0 u wr (z1 ++ z2.take k))) (fun _ i _ => z2.length - (intOf i).toNat)
        case atStart => exact ⟨0, Nat.zero_le _, rfl, HB1.out⟩
        case round =>
          obtain ⟨k, hk, rfl, HR⟩ := hrel
          obtain ⟨⟨Ab, cb, rfl, hsb⟩, hbr⟩ := HR.out
          have HSB := Lib.hid hsb
          have HBR := Lib.hid hbr
          have hzr := hbr.size
          have y0 := (hbr.cell (p := ⟨bx, 0, none⟩) hz0).trans x0
          have y1 := (hbr.cell (p := ⟨bx, 1, none⟩) hz0).trans x1
          clear hsb hbr
          by_cases hlt : k < z2.length
          · obtain ⟨b, o, rfl, hb, d0⟩ := int_at ((HZ2.out.mono (Nat.le_of_lt hz0)).below HBR.out) hlt
            have HPT := Lib.hid (puts_take z1 z2 hlt)
            have hpl := puts_le (z1 ++ z2.take k)
            have hpl2 : (z1 ++ z2.take k).length ≤ 100 := by simp; omega
            generalize putsL (z1 ++ z2.take k) = ys at *
            go_wp2_with fail
            refine (iput_any ys Ab cb z2[k] _ HSB.out (by omega)).mono ?_
            rintro e w3 ⟨A3, c3, rfl, hs3, hb3⟩
            rw [← HPT.out] at hs3 ⊢
            have HS3 : Hid (BothAt W0 (.slice A3 (putsL (z1 ++ z2.take (k + 1))).length c3) w3 (z1 ++ z2.take (k + 1))) := ⟨⟨A3, c3, rfl, hs3⟩, HBR.out.trans (hb3.mono hzr)⟩
            clear hs3 hb3 y0 y1 d0
            go_wp2_with fail
            go_roundw
            case rel => exact ⟨k + 1, by omega, by go_num, HS3⟩
            case measure => simp [intOf]; omega
          · obtain rfl : k = z2.length := by omega
            rw [List.take_length, puts_once] at HSB ⊢
            have HKEEP : Hid (∀ W, Below W0.heap.size W0 W → W.cell? ⟨bx, 0, none⟩ = some (.slice A1 z1.length c1) ∧ W.cell? ⟨bx, 1, none⟩ = some (.slice A2 z2.length c2)) := fun W hW => ⟨(hW.cell (p := ⟨bx, 0, none⟩) hz0).trans x0, (hW.cell (p := ⟨bx, 1, none⟩) hz0).trans x1⟩
            have HTO : Hid (∀ W, Below wr.heap.size wr W → Below W0.heap.size W0 W) := fun W hW => HBR.out.trans (hW.mono hzr)
            have HZ1W : Hid (∀ W, Below W0.heap.size W0 W → Seg W W.heap.size A1 (z1.map (Value.int .i64))) := fun W hW => ((HZ1.out.mono (Nat.le_of_lt hz0)).below hW).mono hW.size
            have HZ2W : Hid (∀ W, Below W0.heap.size W0 W → Seg W W.heap.size A2 (z2.map (Value.int .i64))) := fun W hW => ((HZ2.out.mono (Nat.le_of_lt hz0)).below hW).mono hW.size
            have HZLW : Hid (∀ W, Below W0.heap.size W0 W → Seg W W.heap.size A (obRows L)) := fun W hW => ((HZL.out.mono (Nat.le_of_lt hz0)).below hW).mono hW.size
            have HCF : Hid (∀ W, Below W0.heap.size W0 W → Calls Try.prog 8 #[.slice A L.length c] W (GotSeg W (onceL ((L.filter mustB).map (·.m))))) := fun W hW => failed_any L A c W (HZLW.out W hW) (by omega)
            have HCR : Hid (∀ W, Below W0.heap.size W0 W → Calls Try.prog 9 #[.slice A L.length c] W (GotSeg W (onceL ((L.filter mustB).map (·.m))))) := fun W hW => by
              have := rfailed_any L A c W (HZLW.out W hW) (by omega)
              rw [puts_once] at this
              exact this
            have HCJ : Hid (∀ W, Below W0.heap.size W0 W → Calls Try.prog 10 #[.slice A1 z1.length c1, .slice A2 z2.length c2] W (GotSeg W (onceL (z1 ++ z2)))) := fun W hW => join_any z1 z2 A1 A2 c1 c2 W ⟨HZ1W.out W hW, HN1.out⟩ ⟨HZ2W.out W hW, HN2.out⟩ (by omega) (by omega)
            have hFl : (onceL ((L.filter mustB).map (·.m))).length ≤ 1000000 := by
              have h1 := once_len ((L.filter mustB).map (·.m))
              have h2 := List.length_filter_le mustB L
              rw [List.length_map] at h1
              omega
            have hJl : (onceL (z1 ++ z2)).length ≤ 1000000 := by
              have h1 := once_len (z1 ++ z2)
              rw [List.length_append] at h1
              omega
            have hz1l : z1.length ≤ 1000000 := by omega
            generalize onceL ((L.filter mustB).map (·.m)) = FL at *
            generalize onceL (z1 ++ z2) = JL at *
            have HJB : Hid (∀ W, Below wr.heap.size wr W → Seg W W.heap.size Ab (JL.map (Value.int .i64))) := fun W hW => (HSB.out.below hW).mono hW.size
            go_wp2_with fail
            rw [rounds_succ]
            go_wp2_with fail
            have HBW : Hid (Below wr.heap.size wr wr.drew) := (Below.refl _ _).drew
            clear y0 y1 x0 x1
            go_region_held3 (fun w' => w'.cell? ⟨bx, 0, none⟩ = some (.slice A1 z1.length c1) ∧ w'.cell? ⟨bx, 1, none⟩ = some (.slice A2 z2.length c2)) (exact HKEEP.out _ (HTO.out _ HBW.out))
              (first | (go_at_call 5; ((with_reducible refine (awake_any _).mono ?_)); rintro e wa ⟨rfl, hb⟩; have HBW : Hid (Below wr.heap.size wr wa) := HBW.out.trans (hb.mono HBW.out.size); clear hb) | (go_at_call 8; ((with_reducible refine (HCF.out _ (HTO.out _ HBW.out)).mono ?_)); rintro e wf ⟨Af, cf, rfl, hs, hb⟩; have HGF := Lib.hid hs; have HBW : Hid (Below wr.heap.size wr wf) := HBW.out.trans (hb.mono HBW.out.size); clear hs hb) | (go_at_call 9; ((with_reducible refine (HCR.out _ (HTO.out _ HBW.out)).mono ?_)); rintro e wg ⟨Ag, cg, rfl, hs, hb⟩; have HGR := Lib.hid hs; have HGF := Lib.hid ((HGF.out.below hb).mono hb.size); have HBW : Hid (Below wr.heap.size wr wg) := HBW.out.trans (hb.mono HBW.out.size); clear hs hb) | (go_at_call 7; ((with_reducible refine (isame_any FL Af Ag cf cg _ HGF.out HGR.out hFl).mono ?_)); rintro e wh ⟨rfl, hb⟩; have HBW : Hid (Below wr.heap.size wr wh) := HBW.out.trans (hb.mono HBW.out.size); clear hb) | (go_at_call 10; ((with_reducible refine (HCJ.out _ (HTO.out _ HBW.out)).mono ?_)); rintro e wj ⟨Aj, cj, rfl, hs, hb⟩; have HGJ := Lib.hid hs; have HBW : Hid (Below wr.heap.size wr wj) := HBW.out.trans (hb.mono HBW.out.size); clear hs hb) | (go_at_call 7; ((with_reducible refine (isame_any JL Aj Ab cj cb _ HGJ.out (HJB.out _ HBW.out) hJl).mono ?_)); rintro e wk ⟨rfl, hb⟩; have HBW : Hid (Below wr.heap.size wr wk) := HBW.out.trans (hb.mono HBW.out.size); clear hb) | (go_at_call 11; ((with_reducible refine (has_any z1 A1 c1 m _ (HZ1W.out _ (HTO.out _ HBW.out)) hz1l).mono ?_)); rintro e wm ⟨rfl, rfl⟩) | (go_at_call 12; ((with_reducible refine (in_any z1 A1 c1 m _ (HZ1W.out _ (HTO.out _ HBW.out)) hz1l).mono ?_)); rintro e wn ⟨rfl, rfl⟩))
            go_wp2_with fail
            go_ret
            refine ⟨rfl, ?_⟩
            rw [HBX.out]
            exact HB0.out.trans ((HTO.out _ HBW.out).mono (Nat.le_of_lt hz0))
end Go.Proofs.Ytjgliooeidgehaa
