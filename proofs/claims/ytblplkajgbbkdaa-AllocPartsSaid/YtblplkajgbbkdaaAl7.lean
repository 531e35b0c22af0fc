/-
  The walk of AllocParts, over this seat's translation.
-/
import Derived.Test.YtblplkajgbbkdaaAl5
namespace Go.Proofs.Ytblplkajgbbkdaa
open Go.RowKit Go.Lib

set_option maxHeartbeats 6400000 in
set_option maxRecDepth 1000000 in
theorem aparts_law (L : List Lg) (who : List Int) (A Aw : Option Addr) (c cw : Nat) (w : World) (hs : Seg w w.heap.size A (lgRows L)) (hI : ∀ x ∈ L, I64 x.n) (hn : L.length ≤ maxLen) (hw : Seg w w.heap.size Aw (who.map (Value.int .i64))) (hnw : who.length ≤ maxLen) :
    Calls Try.prog 12 #[.slice A L.length c, .slice Aw who.length cw] w fun e w' => e = .returned (.bool true) ∧ Below w.heap.size w w' := by
  unfold maxLen at hn hnw
  by_cases hbig : 60 < L.length ∨ 30 < who.length
  · have hq : decide ((60 : Int) < (L.length : Int)) = true ∨ decide ((60 : Int) < (L.length : Int)) = false ∧ decide ((30 : Int) < (who.length : Int)) = true := by
      simp only [decide_eq_true_eq, decide_eq_false_iff_not]
      omega
    clear hI hs hw hbig
    rcases hq with q1 | ⟨q1, q2⟩
    all_goals
      go_enter Try.func12, Try.ntmps12
      go_wp2_with fail
      refine (awake26_any _).mono ?_
      rintro e w1 ⟨rfl, hb1⟩
      have HB1 := Lib.hid hb1
      clear hb1
      go_wp2_with fail
      go_ret
      exact ⟨rfl, HB1.out⟩
  have hl : L.length ≤ 60 := by omega
  have hlw : who.length ≤ 30 := by omega
  have hle1 : decide ((60 : Int) < (L.length : Int)) = false := decide_eq_false (by omega)
  have hle2 : decide ((30 : Int) < (who.length : Int)) = false := decide_eq_false (by omega)
  have HS := Lib.hid hs
  have HW := Lib.hid hw
  have HC4 := Lib.hid (part_any L who A Aw c cw w hs hI (by omega) hw (by omega))
  have HC1 : Hid (∀ W, Below w.heap.size w W → Calls Try.prog 25 #[.slice A L.length c] W fun e w' => e = .returned (.tuple #[.int .i64 (sumV L), .int .i64 (clmE L)]) ∧ Below W.heap.size W w') := fun W hW => rsum26_any L A c W ((hs.below hW).mono hW.size) hI (by omega)
  clear hbig hI hs hw hn hnw
  by_cases h0 : ¬ clmE L = 0
  · have hg : partG who L = [] := by unfold partG; rw [if_neg h0]
    have hk : partH who L = [] := by unfold partH; rw [if_neg h0]
    have h0b : (clmE L != 0) = true := by simpa [bne] using h0
    have h0d : (clmE L == clmE L) = true := by simp
    rw [hg, hk] at HC4
    clear hg hk h0
    generalize clmE L = E at *
    generalize sumV L = SV at *
    go_enter Try.func12, Try.ntmps12
    go_wp2_with fail
    refine HC4.out.mono ?_
    rintro e w1 ⟨A4, c4, B4, d4, rfl, hg4, hl4, hb1⟩
    have HB1 := Lib.hid hb1
    clear hb1 hg4 hl4
    go_wp2_with fail
    refine (HC1.out _ HB1.out).mono ?_
    rintro e w2 ⟨rfl, hb2⟩
    have HB2 : Hid (Below w.heap.size w w2) := HB1.out.trans (hb2.mono HB1.out.size)
    clear hb2
    go_wp2_with fail
    refine (awake26_any _).mono ?_
    rintro e w3 ⟨rfl, hb3⟩
    have HB3 : Hid (Below w.heap.size w w3) := HB2.out.trans (hb3.mono HB2.out.size)
    clear hb3
    go_wp2_with fail
    go_ret
    exact ⟨rfl, HB3.out⟩
  have h0 := Decidable.not_not.1 h0
  have hg : partG who L = L.filter (fun x => !outB who x) := by unfold partG; rw [if_pos h0]
  have hk : partH who L = L.filter (fun x => outB who x) := by unfold partH; rw [if_pos h0]
  rw [hg, hk, h0] at HC4
  rw [h0] at HC1
  have hfl1 : (L.filter (fun x => !outB who x)).length ≤ 1000000 := Nat.le_trans (List.length_filter_le _ _) (by omega)
  have hfl2 : (L.filter (fun x => outB who x)).length ≤ 1000000 := Nat.le_trans (List.length_filter_le _ _) (by omega)
  clear hg hk h0
  generalize sumV L = SV at *
  obtain ⟨i0, hi0, hz0, hz1', hz2⟩ := info_parts lg_info
  go_enter Try.func12, Try.ntmps12
  go_wp2_with fail
  refine HC4.out.mono ?_
  rintro e w1 ⟨A4, c4, B4, d4, rfl, hg4, hl4, hb1⟩
  have HB1 := Lib.hid hb1
  have HG1 := Lib.hid hg4
  have HL1 := Lib.hid hl4
  clear hb1 hg4 hl4 HC4
  go_wp2_with fail
  refine (HC1.out _ HB1.out).mono ?_
  rintro e w2 ⟨rfl, hb2⟩
  have HB2 : Hid (Below w.heap.size w w2) := HB1.out.trans (hb2.mono HB1.out.size)
  have HG2 : Hid (Seg w2 w2.heap.size A4 (lgRows (L.filter (fun x => !outB who x)))) := (HG1.out.below hb2).mono hb2.size
  have HL2 : Hid (Seg w2 w2.heap.size B4 (lgRows (L.filter (fun x => outB who x)))) := (HL1.out.below hb2).mono hb2.size
  have sz2 := HB2.out.size
  clear hb2 HC1 HB1 HG1 HL1
  go_wp2_with fail
  go_loopw [10, 11, 12, 13, 14] (fun g h i _ _ wr => ∃ k : Nat, k ≤ L.length ∧ i = .int .i64 k ∧ Hid (TwoR w2 47 3 g ((L.take k).filter (fun x => !outB who x)).length (lgRows ((L.take k).filter (fun x => !outB who x))) h ((L.take k).filter (fun x => outB who x)).length (lgRows ((L.take k).filter (fun x => outB who x))) wr)) (fun _ _ i _ _ _ => L.length - (intOf i).toNat)
  case atStart => exact ⟨0, Nat.zero_le _, rfl, TwoR.start (Below.refl _ _)⟩
  case round =>
    obtain ⟨gv, hgv⟩ : ∃ gv, gv = u10 := ⟨_, rfl⟩
    obtain ⟨hv9, hhv⟩ : ∃ hv9, hv9 = u11 := ⟨_, rfl⟩
    subst hgv hhv
    obtain ⟨k, hk, rfl, HR⟩ := hrel
    have hsz := HR.out.b.size
    have HWB : Hid (Below w.heap.size w wr) := HB2.out.trans (HR.out.b.mono sz2)
    have hfa := filter_len (fun x => !outB who x) L k
    have hfb := filter_len (fun x => outB who x) L k
    by_cases hlt : k < L.length
    · obtain ⟨b, o, rfl, hb, -, -, -⟩ := lg_at (HS.out.below HWB.out) hlt
      obtain ⟨wo, rfl⟩ : ∃ wo : World, wo = wr := ⟨_, rfl⟩
      go_wp2_with fail
      go_loopw [13, 14] (fun u i wr => ∃ j : Nat, j ≤ who.length ∧ i = .int .i64 j ∧ u = .bool (hasB (who.take j) L[k].m) ∧ Hid (∃ n, wo.drewN n = wr)) (fun _ i _ => who.length - (intOf i).toNat)
      case atStart => exact ⟨0, Nat.zero_le _, rfl, by simp [hasB], ⟨0, rfl⟩⟩
      case round =>
        obtain ⟨j, hj, rfl, rfl, HN⟩ := hrel
        obtain ⟨n, rfl⟩ := HN.out
        by_cases hjt : j < who.length
        · obtain ⟨b1, o1, rfl, hb1, e0⟩ := int_at (HW.out.below HWB.out) hjt
          obtain ⟨d0, d1, d2⟩ := lg_cells (HS.out.below HWB.out) hlt
          have HF := Lib.hid (contains_snoc L[k].m hjt)
          have hj0 : (0 : Int) ≤ (j : Int) := by omega
          have hjb : (j : Int) < (who.length : Int) := by omega
          have hk0 : (0 : Int) ≤ (k : Int) := by omega
          have hkb : (k : Int) < (L.length : Int) := by omega
          cases hh : hasB (who.take j) L[k].m
          · have HF2 : Hid (hasB (who.take (j + 1)) L[k].m = (who[j] == L[k].m)) := by show _ = _; unfold hasB at hh ⊢; rw [HF.out, hh]; rfl
            clear hh
            go_wp2_with fail
            go_quiet (fail)
            go_wp2_with fail
            go_roundw
            case rel => exact ⟨j + 1, by omega, by go_num, by rw [HF2.out], ⟨n + nq, rfl⟩⟩
            case measure => simp [intOf]; omega
          · have HF2 : Hid (hasB (who.take (j + 1)) L[k].m = true) := by show _ = _; unfold hasB at hh ⊢; rw [HF.out, hh]; rfl
            clear hh
            go_wp2_with fail
            go_quiet (fail)
            go_wp2_with fail
            go_roundw
            case rel => exact ⟨j + 1, by omega, by go_num, by rw [HF2.out], ⟨n + nq, rfl⟩⟩
            case measure => simp [intOf]; omega
        · obtain rfl : j = who.length := by omega
          have HR2 : Hid (TwoR w2 47 3 gv ((L.take k).filter (fun x => !outB who x)).length (lgRows ((L.take k).filter (fun x => !outB who x))) hv9 ((L.take k).filter (fun x => outB who x)).length (lgRows ((L.take k).filter (fun x => outB who x))) (wo.drewN n)) := HR.out.below (below_drewN (Below.refl _ _) n)
          have HWD : Hid (Below w.heap.size w (wo.drewN n)) := below_drewN HWB.out n
          have hszd : w2.heap.size ≤ (wo.drewN n).heap.size := hsz
          rw [List.take_length]
          obtain ⟨d0, d1, d2⟩ := lg_cells (HS.out.below HWD.out) hlt
          generalize wo.drewN n = wd at *
          cases hv : hasB who L[k].m
          · have HFG := Lib.hid (filter_snoc_if (fun x => !outB who x) hlt (!false) (by show (!outB who L[k]) = _; unfold outB; rw [hv]))
            have HFH := Lib.hid (filter_snoc_if (fun x => outB who x) hlt false hv)
            clear hv
            generalize (L.take k).filter (fun x => !outB who x) = gs at *
            generalize (L.take k).filter (fun x => outB who x) = hs9 at *
            go_wp2_with (at_builtin; refine wpList_append_lies _ rfl _ _ 39 rfl w2.heap.size 47 i0 _ 3 24 Try.underlying39 hi0 hz0 hz1' hz2 rfl (by decide) _ gs.length (lgRows gs) rfl (HR2.out.p.alloc _) ⟨wd.heap.size, 0, none⟩ 1 1 L[k].cells rfl rfl (new_cells _ _ #[_, _, _] (by simp)) (leg_one L[k]) (by decide) (by simp only [maxLen]; omega) (by omega) (by simp; omega) _ rfl ?_)
            intro gx cap w4 hown1 hgrow1 hat _
            have HR4 := Lib.hid (HR2.out.first ((Below.refl _ _).alloc (Nat.le_refl _) _) hown1 hgrow1 (hat.imp id (fun e => by rw [e]; first | (simp; done) | ((try simp); omega))))
            have HR5 : Hid (TwoR w2 47 3 (.slice (some ⟨gx, 0, none⟩) (gs.length + 1) cap) ((L.take (k + 1)).filter (fun x => !outB who x)).length (lgRows ((L.take (k + 1)).filter (fun x => !outB who x))) hv9 ((L.take (k + 1)).filter (fun x => outB who x)).length (lgRows ((L.take (k + 1)).filter (fun x => outB who x))) w4) := by
              show TwoR _ _ _ _ _ _ _ _ _ _
              rw [HFG.out, HFH.out]
              simp only [Bool.not_false, if_true, Bool.false_eq_true, if_false, List.append_nil]
              rw [lgRows_snoc, List.length_append, List.length_singleton]
              exact HR4.out
            clear hown1 hgrow1 hat HR4
            go_wp2_with fail
            go_roundw
            case rel => exact ⟨k + 1, by omega, by go_num, HR5⟩
            case measure => simp [intOf]; omega
          · have HFG := Lib.hid (filter_snoc_if (fun x => !outB who x) hlt (!true) (by show (!outB who L[k]) = _; unfold outB; rw [hv]))
            have HFH := Lib.hid (filter_snoc_if (fun x => outB who x) hlt true hv)
            clear hv
            generalize (L.take k).filter (fun x => !outB who x) = gs at *
            generalize (L.take k).filter (fun x => outB who x) = hs9 at *
            go_wp2_with (at_builtin; refine wpList_append_lies _ rfl _ _ 39 rfl w2.heap.size 47 i0 _ 3 24 Try.underlying39 hi0 hz0 hz1' hz2 rfl (by decide) _ hs9.length (lgRows hs9) rfl (HR2.out.r.alloc _) ⟨wd.heap.size, 0, none⟩ 1 1 L[k].cells rfl rfl (new_cells _ _ #[_, _, _] (by simp)) (leg_one L[k]) (by decide) (by simp only [maxLen]; omega) (by omega) (by simp; omega) _ rfl ?_)
            intro gx cap w4 hown1 hgrow1 hat _
            have HR4 := Lib.hid (HR2.out.second ((Below.refl _ _).alloc (Nat.le_refl _) _) hown1 hgrow1 (hat.imp id (fun e => by rw [e]; first | (simp; done) | ((try simp); omega))))
            have HR5 : Hid (TwoR w2 47 3 gv ((L.take (k + 1)).filter (fun x => !outB who x)).length (lgRows ((L.take (k + 1)).filter (fun x => !outB who x))) (.slice (some ⟨gx, 0, none⟩) (hs9.length + 1) cap) ((L.take (k + 1)).filter (fun x => outB who x)).length (lgRows ((L.take (k + 1)).filter (fun x => outB who x))) w4) := by
              show TwoR _ _ _ _ _ _ _ _ _ _
              rw [HFG.out, HFH.out]
              simp only [Bool.not_true, if_true, Bool.false_eq_true, if_false, List.append_nil]
              rw [lgRows_snoc, List.length_append, List.length_singleton]
              exact HR4.out
            clear hown1 hgrow1 hat HR4
            go_wp2_with fail
            go_roundw
            case rel => exact ⟨k + 1, by omega, by go_num, HR5⟩
            case measure => simp [intOf]; omega
    · obtain rfl : k = L.length := by omega
      have hR := HR.out
      rw [List.take_length] at hR
      have hp := hR.p
      have hr := hR.r
      obtain ⟨A1, c1, rfl⟩ := own_form hp
      obtain ⟨A2, c2, rfl⟩ := own_form hr
      have HSP := Lib.hid (Seg.of_own hp)
      have HSR := Lib.hid (Seg.of_own hr)
      have HG3 : Hid (Seg wr wr.heap.size A4 (lgRows (L.filter (fun x => !outB who x)))) := (HG2.out.below hR.b).mono hsz
      have HL3 : Hid (Seg wr wr.heap.size B4 (lgRows (L.filter (fun x => outB who x)))) := (HL2.out.below hR.b).mono hsz
      have wsz := HWB.out.size
      clear hR hp hr HR HG2 HL2
      generalize L.filter (fun x => !outB who x) = gs at *
      generalize L.filter (fun x => outB who x) = hs9 at *
      go_wp2_with fail
      refine (awake26_any _).mono ?_
      rintro e w5 ⟨rfl, hb5⟩
      have HB5 : Hid (Below w.heap.size w w5) := HWB.out.trans (hb5.mono wsz)
      have HP5 : Hid (Seg w5 w5.heap.size A1 (lgRows gs)) := (HSP.out.below hb5).mono hb5.size
      have HR5 : Hid (Seg w5 w5.heap.size A2 (lgRows hs9)) := (HSR.out.below hb5).mono hb5.size
      have HG5 : Hid (Seg w5 w5.heap.size A4 (lgRows gs)) := (HG3.out.below hb5).mono hb5.size
      have HL5 : Hid (Seg w5 w5.heap.size B4 (lgRows hs9)) := (HL3.out.below hb5).mono hb5.size
      clear hb5 HSP HSR HG3 HL3
      go_wp2_with fail
      refine (lsame_any gs A4 A1 _ _ _ HG5.out HP5.out hfl1).mono ?_
      rintro e w6 ⟨rfl, hb6⟩
      have HB6 : Hid (Below w.heap.size w w6) := HB5.out.trans (hb6.mono HB5.out.size)
      have HR6 : Hid (Seg w6 w6.heap.size A2 (lgRows hs9)) := (HR5.out.below hb6).mono hb6.size
      have HL6 : Hid (Seg w6 w6.heap.size B4 (lgRows hs9)) := (HL5.out.below hb6).mono hb6.size
      clear hb6 HP5 HR5 HG5 HL5
      go_wp2_with fail
      refine (lsame_any hs9 B4 A2 _ _ _ HL6.out HR6.out hfl2).mono ?_
      rintro e w7 ⟨rfl, hb7⟩
      have HB7 : Hid (Below w.heap.size w w7) := HB6.out.trans (hb7.mono HB6.out.size)
      clear hb7
      go_wp2_with fail
      go_ret
      exact ⟨rfl, HB7.out⟩
end Go.Proofs.Ytblplkajgbbkdaa
