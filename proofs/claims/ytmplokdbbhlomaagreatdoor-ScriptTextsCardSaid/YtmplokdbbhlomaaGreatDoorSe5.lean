/-
  The law ScriptTexts, walked: it returns true. (Printed by gen_se5.py.)
-/
import Derived.Test.YtmplokdbbhlomaaGreatDoorSe1
import Derived.Test.YtmplokdbbhlomaaGreatDoorSe4
namespace Go.Proofs.YtmplokdbbhlomaaGreatDoor
open Go.RowKit

theorem readT_len (t : List UInt8) : (readT t).1.length ≤ t.length := by
  unfold readT
  split
  · simp
  · split
    · unfold readLs
      split
      · simp
      · simp only [List.length_map, lnsT_length]
        exact List.count_le_length
    · simp
set_option maxRecDepth 100000 in
set_option maxHeartbeats 25600000 in
theorem texts_law (l : List St) (A : Option Addr) (c : Nat) (t : List UInt8) (w : World) (hs : Seg w w.heap.size A (stRows l)) (hI : ∀ x ∈ l, StOk x) (he : EnvZ w) : Calls Tryz.prog 4 #[.slice A l.length c, .string (bs t)] w fun e w' => e = .returned (.bool true) ∧ Below w.heap.size w w' := by
  have HE := Lib.hid he
  have HS := Lib.hid hs
  have HI := Lib.hid hI
  clear he hs hI
  have hsz := bs_size t
  have HAW := Lib.hid (fun W hW => sawake_any W hW)
  have HB0 : Hid (Below w.heap.size w w) := Lib.hid (Below.refl _ _)
  by_cases hl : 40 < l.length
  · go_enter Tryz.func4, Tryz.ntmps4
    go_wp2_with (go_at_call 5; refine (HAW.out _ (HE.out.below HB0.out).s).mono ?_; rintro e w1 ⟨rfl, hb⟩; have HB1 : Hid (Below w.heap.size w w1) := Lib.hid (HB0.out.trans (hb.mono HB0.out.size)); clear hb)
    go_ret
    exact ⟨rfl, HB1.out⟩
  by_cases ht : 1500 < t.length
  · go_enter Tryz.func4, Tryz.ntmps4
    go_wp2_with (go_at_call 5; refine (HAW.out _ (HE.out.below HB0.out).s).mono ?_; rintro e w1 ⟨rfl, hb⟩; have HB1 : Hid (Below w.heap.size w w1) := Lib.hid (HB0.out.trans (hb.mono HB0.out.size)); clear hb)
    go_ret
    exact ⟨rfl, HB1.out⟩
  have HPR := Lib.hid (print_any l A c w HS.out HI.out HE.out.s)
  have HWR := Lib.hid (fun W hW => srwrong_any l A c W hW)
  by_cases hw0 : wrongL l = 0
  case neg =>
    rw [if_neg hw0] at HPR
    generalize wrongL l = er at *
    have hb0 : (er != 0) = true := by simpa using hw0
    go_enter Tryz.func4, Tryz.ntmps4
    go_wp2_with (go_at_call 12; refine HPR.out.mono ?_)
    rintro e w1 ⟨rfl, hb1⟩
    have HB1 := Lib.hid hb1
    have HS1 := Lib.hid ((HS.out.below hb1).mono hb1.size)
    clear hb1 HPR
    go_wp2_with (go_at_call 13; refine (HWR.out _ HS1.out).mono ?_)
    rintro e w2 ⟨rfl, hb2⟩
    have HB2 : Hid (Below w.heap.size w w2) := Lib.hid (HB1.out.trans (hb2.mono HB1.out.size))
    clear hb2 HB1 HS1 HWR
    obtain ⟨R, hR⟩ : ∃ R, readT t = R := ⟨_, rfl⟩
    have HRD := Lib.hid (sread33_any t (by omega) w2 (HE.out.below HB2.out))
    have HRR := Lib.hid (fun V => srread33_any t V (by omega))
    have hrl : R.1.length ≤ 1000000 := by rw [← hR]; have := readT_len t; omega
    rw [hR] at HRD HRR
    unfold GotRT at HRD HRR
    obtain ⟨m, n, f⟩ := R
    simp only at HRD HRR hrl
    clear hR
    go_wp2_with (go_at_call 14; refine HRD.out.mono ?_)
    rintro e v1 ⟨A1, c1, rfl, hs1, hb1⟩
    have HV1 : Hid (Below w.heap.size w v1) := Lib.hid (HB2.out.trans (hb1.mono HB2.out.size))
    have HS1 := Lib.hid hs1
    clear hs1 hb1 HRD
    go_wp2_with (go_at_call 17; refine (HRR.out _).mono ?_)
    rintro e v2 ⟨A2, c2, rfl, hs2, hb2⟩
    have HV2 : Hid (Below w.heap.size w v2) := Lib.hid (HV1.out.trans (hb2.mono HV1.out.size))
    have HS1b := Lib.hid ((HS1.out.below hb2).mono hb2.size)
    have HS2 := Lib.hid hs2
    clear hs2 hb2 HRR HV1 HS1
    go_wp2_with (go_at_call 5; refine (HAW.out _ (HE.out.below HV2.out).s).mono ?_)
    rintro e v3 ⟨rfl, hb3⟩
    have HV3 : Hid (Below w.heap.size w v3) := Lib.hid (HV2.out.trans (hb3.mono HV2.out.size))
    have HSM := Lib.hid (rsame_any m m A1 A2 c1 c2 v3 ((HS1b.out.below hb3).mono hb3.size) ((HS2.out.below hb3).mono hb3.size) hrl hrl)
    rw [decide_eq_true rfl] at HSM
    clear hb3 HV2 HS1b HS2
    go_wp2_with (go_at_call 16; refine HSM.out.mono ?_; rintro e v4 ⟨rfl, hb4⟩; have HV4 : Hid (Below w.heap.size w v4) := Lib.hid (HV3.out.trans (hb4.mono HV3.out.size)); clear hb4)
    go_ret
    exact ⟨rfl, HV4.out⟩
  obtain ⟨hl2, hR⟩ := wrongL_zero hw0
  have HPP : Hid (readT (printL l) = (l, 0, 0)) := Lib.hid (read_print (fun x hx => ⟨HI.out x hx, hR x hx⟩) (by omega))
  have hpl := printL_len l HI.out
  have HRP := Lib.hid (fun V hV => sread33_any (printL l) (by omega) V hV)
  rw [HPP.out] at HRP
  unfold GotRT at HRP
  simp only at HRP
  have HRF := Lib.hid (fun W hW => srprint_any l A c W hW HI.out hw0)
  rw [if_pos hw0, hw0] at HPR
  rw [hw0] at HWR
  clear hR HPP hw0 hl2
  generalize printL l = s at *
  go_enter Tryz.func4, Tryz.ntmps4
  go_wp2_with (go_at_call 12; refine HPR.out.mono ?_)
  rintro e w1 ⟨rfl, hb1⟩
  have HB1 := Lib.hid hb1
  have HS1 := Lib.hid ((HS.out.below hb1).mono hb1.size)
  clear hb1 HPR
  go_wp2_with (go_at_call 13; refine (HWR.out _ HS1.out).mono ?_)
  rintro e w2 ⟨rfl, hb2⟩
  have HB2 : Hid (Below w.heap.size w w2) := Lib.hid (HB1.out.trans (hb2.mono HB1.out.size))
  have HE2 := Lib.hid (HE.out.below HB2.out)
  clear hb2 HB1 HS1 HWR
  go_wp2_with (go_at_call 14; refine (HRP.out _ HE2.out).mono ?_)
  rintro e w3 ⟨A3, c3, rfl, hs3, hb3⟩
  have HB3 : Hid (Below w.heap.size w w3) := Lib.hid (HB2.out.trans (hb3.mono HB2.out.size))
  have HS3 := Lib.hid hs3
  have HSL := Lib.hid ((HS.out.below HB3.out).mono HB3.out.size)
  clear hs3 hb3 HRP HB2 HE2
  go_wp2_with (go_at_call 15; refine (HRF.out _ HSL.out).mono ?_)
  rintro e w4 ⟨rfl, hb4⟩
  have HB4 : Hid (Below w.heap.size w w4) := Lib.hid (HB3.out.trans (hb4.mono HB3.out.size))
  have HSM := Lib.hid (rsame_any l l A3 A c3 c w4 ((HS3.out.below hb4).mono hb4.size) ((HS.out.below HB4.out).mono HB4.out.size) (by omega) (by omega))
  rw [decide_eq_true rfl] at HSM
  clear hb4 HB3 HS3 HSL HRF
  go_wp2_with (go_at_call 16; refine HSM.out.mono ?_)
  rintro e w5 ⟨rfl, hb5⟩
  have HB5 : Hid (Below w.heap.size w w5) := Lib.hid (HB4.out.trans (hb5.mono HB4.out.size))
  clear hb5 HB4 HSM
  obtain ⟨R, hR⟩ : ∃ R, readT t = R := ⟨_, rfl⟩
  have HRD := Lib.hid (sread33_any t (by omega) w5 (HE.out.below HB5.out))
  have HRR := Lib.hid (fun V => srread33_any t V (by omega))
  have hrl : R.1.length ≤ 1000000 := by rw [← hR]; have := readT_len t; omega
  rw [hR] at HRD HRR
  unfold GotRT at HRD HRR
  obtain ⟨m, n, f⟩ := R
  simp only at HRD HRR hrl
  clear hR
  go_wp2_with (go_at_call 14; refine HRD.out.mono ?_)
  rintro e v1 ⟨A1, c1, rfl, hs1, hb1⟩
  have HV1 : Hid (Below w.heap.size w v1) := Lib.hid (HB5.out.trans (hb1.mono HB5.out.size))
  have HS1 := Lib.hid hs1
  clear hs1 hb1 HRD
  go_wp2_with (go_at_call 17; refine (HRR.out _).mono ?_)
  rintro e v2 ⟨A2, c2, rfl, hs2, hb2⟩
  have HV2 : Hid (Below w.heap.size w v2) := Lib.hid (HV1.out.trans (hb2.mono HV1.out.size))
  have HS1b := Lib.hid ((HS1.out.below hb2).mono hb2.size)
  have HS2 := Lib.hid hs2
  clear hs2 hb2 HRR HV1 HS1
  go_wp2_with (go_at_call 5; refine (HAW.out _ (HE.out.below HV2.out).s).mono ?_)
  rintro e v3 ⟨rfl, hb3⟩
  have HV3 : Hid (Below w.heap.size w v3) := Lib.hid (HV2.out.trans (hb3.mono HV2.out.size))
  have HSM := Lib.hid (rsame_any m m A1 A2 c1 c2 v3 ((HS1b.out.below hb3).mono hb3.size) ((HS2.out.below hb3).mono hb3.size) hrl hrl)
  rw [decide_eq_true rfl] at HSM
  clear hb3 HV2 HS1b HS2
  go_wp2_with (go_at_call 16; refine HSM.out.mono ?_; rintro e v4 ⟨rfl, hb4⟩; have HV4 : Hid (Below w.heap.size w v4) := Lib.hid (HV3.out.trans (hb4.mono HV3.out.size)); clear hb4)
  go_ret
  exact ⟨rfl, HV4.out⟩
end Go.Proofs.YtmplokdbbhlomaaGreatDoor
