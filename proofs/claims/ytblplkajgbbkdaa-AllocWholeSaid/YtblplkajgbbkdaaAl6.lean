/-
  The walk of AllocWhole, over this seat's translation.
-/
import Derived.Test.YtblplkajgbbkdaaWholeLaw
namespace Go.Proofs.Ytblplkajgbbkdaa
open Go.RowKit Go.Lib

set_option maxHeartbeats 6400000 in
set_option maxRecDepth 1000000 in
theorem whole_law (avail : Int) (L : List Lg) (A : Option Addr) (c : Nat) (m : Int) (w : World) (hA : I64 avail) (hs : Seg w w.heap.size A (lgRows L)) (hI : ∀ x ∈ L, I64 x.n) (hn : L.length ≤ maxLen) :
    Calls Try.prog 9 #[.int .i64 avail, .slice A L.length c, .int .i64 m] w fun e w' => e = .returned (.bool true) ∧ Below w.heap.size w w' := by
  unfold maxLen at hn
  by_cases hbig : 60 < L.length
  · have q1 : decide ((60 : Int) < (L.length : Int)) = true := by simp only [decide_eq_true_eq]; omega
    clear hI hs
    go_enter Try.func9, Try.ntmps9
    go_wp2_with fail
    refine (awake26_any _).mono ?_
    rintro e w1 ⟨rfl, hb1⟩
    have HB1 := Lib.hid hb1
    clear hb1
    go_wp2_with fail
    go_ret
    exact ⟨rfl, HB1.out⟩
  have hl : L.length ≤ 60 := by omega
  have hle' : ¬ (60 : Int) < (L.length : Int) := by omega
  have HS := Lib.hid hs
  have HSG : Hid (∀ W, Below w.heap.size w W → Seg W W.heap.size A (lgRows L)) := fun W hW => (hs.below hW).mono hW.size
  have HC4 := Lib.hid (split_any avail L A c w hA hs hI (by omega))
  by_cases h0 : ¬ shE avail L = 0
  · have hg : givL avail L = [] := by unfold givL; rw [if_neg h0]
    have hk : lackL avail L = [] := by unfold lackL; rw [if_neg h0]
    have h0b : (shE avail L != 0) = true := by simpa [bne] using h0
    rw [hg, hk] at HC4
    clear hg hk h0 hI hs hA
    generalize shE avail L = E at *
    go_enter Try.func9, Try.ntmps9
    go_wp2_with fail
    refine HC4.out.mono ?_
    rintro e w1 ⟨A4, c4, B4, d4, rfl, hg4, hl4, hb1⟩
    have HB1 := Lib.hid hb1
    clear hb1 hg4 hl4
    go_wp2_with fail
    refine (awake26_any _).mono ?_
    rintro e w2 ⟨rfl, hb2⟩
    have HB2 : Hid (Below w.heap.size w w2) := HB1.out.trans (hb2.mono HB1.out.size)
    clear hb2
    go_wp2_with fail
    go_ret
    exact ⟨rfl, HB2.out⟩
  have h0 := Decidable.not_not.1 h0
  obtain ⟨hg0, hl0, htg, htl, hme, hmz, hn0, hgl, hll⟩ := wholeF_of m h0
  obtain ⟨hck, hcl, hav⟩ := clm_chk h0
  have hsv : sumV L = sumI (amts L) := by unfold sumV; rw [if_pos hcl]
  have hsh : shV avail L = ovV (sumI (amts L)) avail := by unfold shV; rw [if_pos h0]
  have hSS := (clmE_ok hcl).2.2
  have hS0 := clm_pos hcl
  have hov := ov_pos hS0 hav hSS
  have HC2 : Hid (∀ W, Below w.heap.size w W → Calls Try.prog 26 #[.slice A L.length c] W fun e w' => e = .returned (.tuple #[.int .i64 (sumI (amts L)), .int .i64 0]) ∧ Below W.heap.size W w') := fun W hW => by
    have := asum_any L A c W (HSG.out W hW) hI (by omega)
    rw [hsv, hcl] at this
    exact this
  have HC5 : Hid (∀ W, Below w.heap.size w W → Calls Try.prog 29 #[.int .i64 avail, .slice A L.length c] W fun e w' => e = .returned (.tuple #[.int .i64 (ovV (sumI (amts L)) avail), .int .i64 0]) ∧ Below W.heap.size W w') := fun W hW => by
    have := short_any avail L A c W hA (HSG.out W hW) hI (by omega)
    rw [hsh, h0] at this
    exact this
  rw [h0] at HC4
  have htL := sumIf_all L
  have hb1 := sumIf_le (pm m) _ hg0
  have hb2 := sumIf_le (pm m) _ hl0
  have hb3 := sumIf_nonneg (pm m) _ hg0
  have hb4 := sumIf_nonneg (pm m) _ hl0
  have hb5 := sumIf_le (pm m) _ hn0
  have HG1 : Hid (∀ k, 0 ≤ sumIf (fun _ => true) ((givL avail L).take k) ∧ sumIf (fun _ => true) ((givL avail L).take k) ≤ 9223372036854775807) := fun k => by
    have := sumIf_take_le (fun _ => true) hg0 k
    unfold I64 at hSS
    omega
  have HL1 : Hid (∀ k, 0 ≤ sumIf (fun _ => true) ((lackL avail L).take k) ∧ sumIf (fun _ => true) ((lackL avail L).take k) ≤ 9223372036854775807) := fun k => by
    have := sumIf_take_le (fun _ => true) hl0 k
    unfold I64 at hSS
    omega
  have HG2 : Hid (∀ k, 0 ≤ sumIf (pm m) ((givL avail L).take k) ∧ sumIf (pm m) ((givL avail L).take k) ≤ 9223372036854775807) := fun k => by
    have := sumIf_take_le (pm m) hg0 k
    unfold I64 at hSS
    omega
  have HL2 : Hid (∀ k, 0 ≤ sumIf (pm m) (givL avail L) + sumIf (pm m) ((lackL avail L).take k) ∧ sumIf (pm m) (givL avail L) + sumIf (pm m) ((lackL avail L).take k) ≤ 9223372036854775807) := fun k => by
    have := sumIf_take_le (pm m) hl0 k
    unfold I64 at hSS
    omega
  have HMZ := Lib.hid hmz
  have HTG := Lib.hid htg
  have HTL := Lib.hid htl
  have HME := Lib.hid hme
  have HOV := Lib.hid hov
  have hMF0 : 0 ≤ min avail (sumI (amts L)) := by omega
  have hMF1 : 0 ≤ sumI (amts L) - min avail (sumI (amts L)) := by omega
  have hMF2 : min avail (sumI (amts L)) + (sumI (amts L) - min avail (sumI (amts L))) ≤ 9223372036854775807 := by unfold I64 at hSS; omega
  have v1 : (min avail (sumI (amts L)) == min avail (sumI (amts L))) = true := by simp
  have v2 : (sumI (amts L) - min avail (sumI (amts L)) == ovV (sumI (amts L)) avail) = true := by rw [beq_iff_eq, hov]; omega
  have v3 : (min avail (sumI (amts L)) + (sumI (amts L) - min avail (sumI (amts L))) == sumI (amts L)) = true := by rw [beq_iff_eq]; omega
  have v4 : (sumIf (pm m) L == sumIf (pm m) L) = true := by simp
  have hgl60 : (givL avail L).length ≤ 60 := by omega
  have hll60 : (lackL avail L).length ≤ 60 := by omega
  clear h0 hck hcl hav hsv hsh hSS hS0 hov hg0 hl0 htg htl hme hmz hn0 hgl hll htL hb1 hb2 hb3 hb4 hb5 hI hs hA HOV
  generalize givL avail L = gs at *
  generalize lackL avail L = ls at *
  generalize ovV (sumI (amts L)) avail = OV at *
  generalize sumI (amts L) = S at *
  generalize hFE : S - min avail S = FD at *
  have HFE := Lib.hid hFE
  clear hFE
  go_enter Try.func9, Try.ntmps9
  go_wp2_with fail
  refine HC4.out.mono ?_
  rintro e w1 ⟨A4, c4, B4, d4, rfl, hg4, hl4, hb1⟩
  have HB1 := Lib.hid hb1
  have HG4 := Lib.hid hg4
  have HL4 := Lib.hid hl4
  clear hb1 hg4 hl4 HC4
  go_wp2_with fail
  refine (HC2.out _ HB1.out).mono ?_
  rintro e w2 ⟨rfl, hb2⟩
  have HB2 : Hid (Below w.heap.size w w2) := HB1.out.trans (hb2.mono HB1.out.size)
  have HG5 : Hid (Seg w2 w2.heap.size A4 (lgRows gs)) := (HG4.out.below hb2).mono hb2.size
  have HL5 : Hid (Seg w2 w2.heap.size B4 (lgRows ls)) := (HL4.out.below hb2).mono hb2.size
  clear hb2 HC2 HB1 HG4 HL4
  go_wp2_with fail
  refine (HC5.out _ HB2.out).mono ?_
  rintro e w3 ⟨rfl, hb3⟩
  have HB3 : Hid (Below w.heap.size w w3) := HB2.out.trans (hb3.mono HB2.out.size)
  have HG6 : Hid (Seg w3 w3.heap.size A4 (lgRows gs)) := (HG5.out.below hb3).mono hb3.size
  have HL6 : Hid (Seg w3 w3.heap.size B4 (lgRows ls)) := (HL5.out.below hb3).mono hb3.size
  have HS6 := Lib.hid (HSG.out _ HB3.out)
  clear hb3 HC5 HB2 HG5 HL5
  go_wp2_with fail
  go_loop [14, 16] (fun u i => ∃ k : Nat, k ≤ gs.length ∧ i = .int .i64 k ∧ u = .int .i64 (sumIf (fun _ => true) (gs.take k))) (fun _ i => gs.length - (intOf i).toNat)
  case atStart => exact ⟨0, Nat.zero_le _, rfl, rfl⟩
  case round =>
   obtain ⟨k, hk, rfl, rfl⟩ := hrel
   by_cases hlt : k < gs.length
   · obtain ⟨b, o, rfl, hb, d0, d1, d2⟩ := lg_at HG6.out hlt
     obtain ⟨x0, x1⟩ := HG1.out k
     obtain ⟨y0, y1⟩ := HG1.out (k + 1)
     have HF := Lib.hid (sumIf_snoc (fun _ => true) hlt)
     rw [sumIf_snoc (fun _ => true) hlt, if_pos rfl] at y0 y1
     rw [if_pos rfl] at HF
     generalize sumIf (fun _ => true) (gs.take k) = a at *
     generalize gs[k] = xx at *
     go_wp2_with fail
     go_round
     case rel => exact ⟨k + 1, by omega, by go_num, by rw [HF.out]⟩
     case measure => simp [intOf]; omega
   obtain rfl : k = gs.length := by omega
   clear hlt
   rw [List.take_length, HTG.out]
   go_wp2_with fail
   go_loop [15, 17] (fun u i => ∃ k : Nat, k ≤ ls.length ∧ i = .int .i64 k ∧ u = .int .i64 (sumIf (fun _ => true) (ls.take k))) (fun _ i => ls.length - (intOf i).toNat)
   case atStart => exact ⟨0, Nat.zero_le _, rfl, rfl⟩
   case round =>
    obtain ⟨k, hk, rfl, rfl⟩ := hrel
    by_cases hlt : k < ls.length
    · obtain ⟨b, o, rfl, hb, d0, d1, d2⟩ := lg_at HL6.out hlt
      obtain ⟨x0, x1⟩ := HL1.out k
      obtain ⟨y0, y1⟩ := HL1.out (k + 1)
      have HF := Lib.hid (sumIf_snoc (fun _ => true) hlt)
      rw [sumIf_snoc (fun _ => true) hlt, if_pos rfl] at y0 y1
      rw [if_pos rfl] at HF
      generalize sumIf (fun _ => true) (ls.take k) = a at *
      generalize ls[k] = xx at *
      go_wp2_with fail
      go_round
      case rel => exact ⟨k + 1, by omega, by go_num, by rw [HF.out]⟩
      case measure => simp [intOf]; omega
    obtain rfl : k = ls.length := by omega
    clear hlt
    rw [List.take_length, HTL.out]
    go_wp2_with fail
    go_loop [18, 20] (fun u i => ∃ k : Nat, k ≤ L.length ∧ i = .int .i64 k ∧ u = .int .i64 (sumIf (pm m) (L.take k))) (fun _ i => L.length - (intOf i).toNat)
    case atStart => exact ⟨0, Nat.zero_le _, rfl, rfl⟩
    case round =>
     obtain ⟨k, hk, rfl, rfl⟩ := hrel
     by_cases hlt : k < L.length
     · obtain ⟨b, o, rfl, hb, d0, d1, d2⟩ := lg_at HS6.out hlt
       have HF := Lib.hid (sumIf_snoc (pm m) hlt)
       have HZ := Lib.hid (HMZ.out k hlt)
       by_cases hm : L[k].m = m
       · have hmb : (L[k].m == m) = true := by rw [beq_iff_eq]; exact hm
         have HF2 : Hid (sumIf (pm m) (L.take (k + 1)) = L[k].n) := by show _ = _; rw [HF.out, HZ.out hm, if_pos (by unfold pm; exact hmb)]; omega
         clear hm
         generalize sumIf (pm m) (L.take k) = a at *
         go_wp2_with fail
         go_round
         case rel => exact ⟨k + 1, by omega, by go_num, by rw [HF2.out]⟩
         case measure => simp [intOf]; omega
       · have hmb : (L[k].m == m) = false := by rw [beq_eq_false_iff_ne]; exact hm
         have HF2 : Hid (sumIf (pm m) (L.take (k + 1)) = sumIf (pm m) (L.take k)) := by show _ = _; rw [HF.out, if_neg (by unfold pm; rw [hmb]; decide)]; omega
         clear hm
         go_wp2_with fail
         go_round
         case rel => exact ⟨k + 1, by omega, by go_num, by rw [HF2.out]⟩
         case measure => simp [intOf]; omega
     obtain rfl : k = L.length := by omega
     clear hlt
     rw [List.take_length]
     go_wp2_with fail
     go_loop [19, 21] (fun u i => ∃ k : Nat, k ≤ gs.length ∧ i = .int .i64 k ∧ u = .int .i64 (sumIf (pm m) (gs.take k))) (fun _ i => gs.length - (intOf i).toNat)
     case atStart => exact ⟨0, Nat.zero_le _, rfl, rfl⟩
     case round =>
      obtain ⟨k, hk, rfl, rfl⟩ := hrel
      by_cases hlt : k < gs.length
      · obtain ⟨b, o, rfl, hb, d0, d1, d2⟩ := lg_at HG6.out hlt
        obtain ⟨x0, x1⟩ := HG2.out k
        obtain ⟨y0, y1⟩ := HG2.out (k + 1)
        have HF := Lib.hid (sumIf_snoc (pm m) hlt)
        rw [sumIf_snoc (pm m) hlt] at y0 y1
        by_cases hm : gs[k].m = m
        · have hmb : (gs[k].m == m) = true := by rw [beq_iff_eq]; exact hm
          have hpm : pm m gs[k] = true := hmb
          rw [if_pos hpm] at HF y0 y1
          clear hm hpm
          generalize sumIf (pm m) (gs.take k) = a at *
          generalize gs[k] = xx at *
          go_wp2_with fail
          go_round
          case rel => exact ⟨k + 1, by omega, by go_num, by rw [HF.out]⟩
          case measure => simp [intOf]; omega
        · have hmb : (gs[k].m == m) = false := by rw [beq_eq_false_iff_ne]; exact hm
          have hpm : ¬ pm m gs[k] = true := by unfold pm; rw [hmb]; decide
          rw [if_neg hpm, Int.add_zero] at HF
          clear hm hpm y0 y1
          go_wp2_with fail
          go_round
          case rel => exact ⟨k + 1, by omega, by go_num, by rw [HF.out]⟩
          case measure => simp [intOf]; omega
      obtain rfl : k = gs.length := by omega
      clear hlt
      rw [List.take_length]
      go_wp2_with fail
      go_loop [19, 22] (fun u i => ∃ k : Nat, k ≤ ls.length ∧ i = .int .i64 k ∧ u = .int .i64 (sumIf (pm m) gs + sumIf (pm m) (ls.take k))) (fun _ i => ls.length - (intOf i).toNat)
      case atStart => exact ⟨0, Nat.zero_le _, rfl, by simp [sumIf]⟩
      case round =>
       obtain ⟨k, hk, rfl, rfl⟩ := hrel
       by_cases hlt : k < ls.length
       · obtain ⟨b, o, rfl, hb, d0, d1, d2⟩ := lg_at HL6.out hlt
         obtain ⟨x0, x1⟩ := HL2.out k
         obtain ⟨y0, y1⟩ := HL2.out (k + 1)
         have HF := Lib.hid (sumIf_snoc (pm m) hlt)
         rw [sumIf_snoc (pm m) hlt] at y0 y1
         by_cases hm : ls[k].m = m
         · have hmb : (ls[k].m == m) = true := by rw [beq_iff_eq]; exact hm
           have hpm : pm m ls[k] = true := hmb
           rw [if_pos hpm] at HF y0 y1
           rw [← Int.add_assoc] at y0 y1
           have HF3 : Hid (sumIf (pm m) gs + sumIf (pm m) (ls.take (k + 1)) = sumIf (pm m) gs + sumIf (pm m) (ls.take k) + ls[k].n) := by show _ = _; rw [HF.out]; omega
           clear hm hpm HF
           generalize sumIf (pm m) gs + sumIf (pm m) (ls.take k) = a at *
           go_wp2_with fail
           go_round
           case rel => exact ⟨k + 1, by omega, by go_num, by rw [HF3.out]⟩
           case measure => simp [intOf]; omega
         · have hmb : (ls[k].m == m) = false := by rw [beq_eq_false_iff_ne]; exact hm
           have hpm : ¬ pm m ls[k] = true := by unfold pm; rw [hmb]; decide
           rw [if_neg hpm, Int.add_zero] at HF
           clear hm hpm y0 y1
           go_wp2_with fail
           go_round
           case rel => exact ⟨k + 1, by omega, by go_num, by rw [HF.out]⟩
           case measure => simp [intOf]; omega
       obtain rfl : k = ls.length := by omega
       clear hlt
       rw [List.take_length, HME.out]
       go_wp2_with fail
       refine (awake26_any _).mono ?_
       rintro e w9 ⟨rfl, hb9⟩
       have HB9 : Hid (Below w.heap.size w w9) := HB3.out.trans (hb9.mono HB3.out.size)
       clear hb9
       go_wp2_with fail
       go_ret
       exact ⟨rfl, HB9.out⟩
end Go.Proofs.Ytblplkajgbbkdaa
