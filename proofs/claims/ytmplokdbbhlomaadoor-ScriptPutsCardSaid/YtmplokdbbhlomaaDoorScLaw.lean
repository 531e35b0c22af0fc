/-
  The laws ScriptGets and ScriptPuts, walked: each returns true.
-/
import Derived.Test.YtmplokdbbhlomaaDoorSc18
import Derived.Test.YtmplokdbbhlomaaDoorSr11
namespace Go.Proofs.YtmplokdbbhlomaaDoor
open Go.RowKit

theorem getL_off {s : List UInt8} (h : (getL s).2 ≠ 0) : (getL s).1 = [] := by
  unfold getL at h ⊢
  repeat' split
  all_goals first | rfl | skip
  rename_i h1 h2 h3
  rw [if_pos h1, if_pos h2, if_pos h3] at h
  exact absurd rfl h
theorem getL_short (s : List UInt8) : (getL s).1.length ≤ 1024 := by
  by_cases h : (getL s).2 = 0
  · exact (getL_got h).2.1
  · rw [getL_off h]; simp
theorem wrongL_of {l : List St} (h1 : l.length ≤ 1024) (h2 : ∀ x ∈ l, rightS x = true) : wrongL l = 0 := by
  unfold wrongL
  rw [if_neg (by omega), if_pos (by rw [List.all_eq_true]; exact h2)]
set_option maxRecDepth 100000 in
set_option maxHeartbeats 6400000 in
theorem gets_law (s : List UInt8) (w : World) (he : EnvS w) : Calls Tryd.prog 4 #[.string (bs s)] w fun e w' => e = .returned (.bool true) ∧ Below w.heap.size w w' := by
  have HE := Lib.hid he
  clear he
  have HAW := Lib.hid (fun W hW => sawake_any W hW)
  have hsz := bs_size s
  by_cases hl : 300 < s.length
  · go_enter Tryd.func4, Tryd.ntmps4
    go_wp2_with (go_at_call 5; refine (HAW.out _ HE.out).mono ?_; rintro e w1 ⟨rfl, hb⟩; have HB1 := Lib.hid hb; clear hb)
    go_ret
    exact ⟨rfl, HB1.out⟩
  have HG1 := Lib.hid (fun W => sget_any s W (by omega))
  have HG2 := Lib.hid (fun W => srget_any s W (by omega))
  have HGT := Lib.hid (getL_got (s := s))
  have hgs := getL_short s
  generalize getL s = R at *
  obtain ⟨l, er⟩ := R
  simp only at HGT hgs
  go_enter Tryd.func4, Tryd.ntmps4
  go_wp2_with (go_at_call 8; refine (HG1.out _).mono ?_)
  rintro e w1 ⟨A1, c1, rfl, hs1, hb1⟩
  have HS1 := Lib.hid hs1
  have HB1 := Lib.hid hb1
  clear hs1 hb1 HG1
  go_wp2_with (go_at_call 12; refine (HG2.out _).mono ?_)
  rintro e w2 ⟨A2, c2, rfl, hs2, hb2⟩
  have HS12 := Lib.hid ((HS1.out.below hb2).mono hb2.size)
  have HS2 := Lib.hid hs2
  have HB2 : Hid (Below w.heap.size w w2) := Lib.hid (HB1.out.trans (hb2.mono HB1.out.size))
  clear hs2 hb2 HG2 HS1 HB1
  have HSM := Lib.hid (rsame_any l l A1 A2 c1 c2 w2 HS12.out HS2.out (by omega) (by omega))
  rw [decide_eq_true rfl] at HSM
  by_cases h0 : er = 0
  case neg =>
    have hb0 : (er != 0) = true := by simpa using h0
    clear HGT
    go_wp2_with (go_at_call 11; refine HSM.out.mono ?_)
    rintro e w3 ⟨rfl, hb3⟩
    have HB3 : Hid (Below w.heap.size w w3) := Lib.hid (HB2.out.trans (hb3.mono HB2.out.size))
    clear hb3
    go_wp2_with (go_at_call 5; refine (HAW.out _ (HE.out.below HB3.out)).mono ?_; rintro e w4 ⟨rfl, hb⟩; have HB4 : Hid (Below w.heap.size w w4) := Lib.hid (HB3.out.trans (hb.mono HB3.out.size)); clear hb)
    go_ret
    exact ⟨rfl, HB4.out⟩
  subst h0
  obtain ⟨g1, g2, g3⟩ := HGT.out rfl
  have HSE := Lib.hid g1
  have HOK : Hid (∀ x ∈ l, StOk x) := Lib.hid fun x hx => (g3 x hx).1
  have hw0 : wrongL l = 0 := wrongL_of g2 fun x hx => (g3 x hx).2
  have HW0 := Lib.hid hw0
  clear g1 g3 hw0 HGT
  go_wp2_with (go_at_call 11; refine HSM.out.mono ?_)
  rintro e w3 ⟨rfl, hb3⟩
  have HB3 : Hid (Below w.heap.size w w3) := Lib.hid (HB2.out.trans (hb3.mono HB2.out.size))
  have HS3 := Lib.hid ((HS12.out.below hb3).mono hb3.size)
  clear hb3
  have HPU := Lib.hid (sput_any l A1 c1 w3 HS3.out HOK.out)
  rw [if_pos HW0.out, HW0.out, ← HSE.out] at HPU
  go_wp2_with (go_at_call 6; refine HPU.out.mono ?_)
  rintro e w4 ⟨rfl, hb4⟩
  have HB4 : Hid (Below w.heap.size w w4) := Lib.hid (HB3.out.trans (hb4.mono HB3.out.size))
  clear hb4
  go_wp2_with (go_at_call 5; refine (HAW.out _ (HE.out.below HB4.out)).mono ?_; rintro e w5 ⟨rfl, hb⟩; have HB5 : Hid (Below w.heap.size w w5) := Lib.hid (HB4.out.trans (hb.mono HB4.out.size)); clear hb)
  go_ret
  exact ⟨rfl, HB5.out⟩
theorem wrongL_big {l : List St} (h : 1024 < l.length) : wrongL l = 6 := by unfold wrongL; rw [if_pos h]
set_option maxRecDepth 100000 in
theorem make_steps (n : Nat) (hn : n ≤ 1000000) (W : World) : ∃ cs : Array Value, (Instr.makeSlice 22 (.int .i64 (n : Int)) (.int .i64 (n : Int))).run Tryd.prog W = .ok (.slice (some ⟨W.heap.size, 0, none⟩) n n) (W.alloc (.cells cs TSt)) := by
  obtain ⟨i0, hi, hz0, hz1, hz2⟩ := info_parts st_info
  have h := run_makeSlice (P := Tryd.prog) W 22 TSt i0 _ Tryd.underlying22 hi hz0 .i64 .i64 n n (by omega) (Int.le_refl _) (by rw [hz1]; simp; omega) (by rw [hz2]; simp; omega) (by omega)
  rw [hz1] at h
  simp only [Int.toNat_natCast] at h
  exact ⟨_, h⟩
theorem sall_big (A : Option Addr) (c : Nat) (w : World) : Calls Tryd.prog 14 #[.slice A 1025 c] w fun e w' => e = .returned (.int .i64 6) ∧ w = w' := by
  go_enter Tryd.func14, Tryd.ntmps14
  go_wp2_with fail
  go_ret
  exact ⟨rfl, rfl⟩
theorem sput_big (A : Option Addr) (c : Nat) (w : World) : Calls Tryd.prog 6 #[.slice A 1025 c] w fun e w' => e = .returned (.tuple #[.string (bs []), .int .i64 6]) ∧ w = w' := by
  go_enter Tryd.func6, Tryd.ntmps6
  go_wp2_with (go_at_call 14; refine (sall_big A c w).mono ?_; rintro e w1 ⟨rfl, rfl⟩)
  go_ret2
  exact ⟨rfl, rfl⟩
theorem srwrong_big (A : Option Addr) (c : Nat) (w : World) : Calls Tryd.prog 7 #[.slice A 1025 c] w fun e w' => e = .returned (.int .i64 6) ∧ w = w' := by
  go_enter Tryd.func7, Tryd.ntmps7
  go_wp2_with fail
  go_ret
  exact ⟨rfl, rfl⟩
set_option maxRecDepth 100000 in
set_option maxHeartbeats 6400000 in
theorem puts_law (l : List St) (A : Option Addr) (c : Nat) (b : Bool) (w : World) (hs : Seg w w.heap.size A (stRows l)) (hI : ∀ x ∈ l, StOk x) (he : EnvS w) : Calls Tryd.prog 3 #[.slice A l.length c, .bool b] w fun e w' => e = .returned (.bool true) ∧ Below w.heap.size w w' := by
  have HE := Lib.hid he
  have HS := Lib.hid hs
  have HI := Lib.hid hI
  clear he hs hI
  have HAW := Lib.hid (fun W hW => sawake_any W hW)
  by_cases hl : 40 < l.length
  · go_enter Tryd.func3, Tryd.ntmps3
    go_wp2_with (go_at_call 5; refine (HAW.out _ HE.out).mono ?_; rintro e w1 ⟨rfl, hb⟩; have HB1 := Lib.hid hb; clear hb)
    go_ret
    exact ⟨rfl, HB1.out⟩
  cases b with
  | true =>
    obtain ⟨cs, hmk⟩ := make_steps 1025 (by omega) w
    have hmk' : (Instr.makeSlice 22 (.int .i64 1025) (.int .i64 1025)).run Tryd.prog w = .ok (.slice (some ⟨w.heap.size, 0, none⟩) 1025 1025) (w.alloc (.cells cs TSt)) := hmk
    clear hmk
    have HBZ : Hid (Below w.heap.size w (w.alloc (.cells cs TSt))) := Lib.hid ((Below.refl _ _).alloc (Nat.le_refl _) _)
    have HE2 := Lib.hid (HE.out.below HBZ.out)
    go_enter Tryd.func3, Tryd.ntmps3
    go_wp2_with (first | (go_at_call 6; refine (sput_big _ _ _).mono ?_; rintro e w1 ⟨rfl, rfl⟩) | (go_at_call 7; refine (srwrong_big _ _ _).mono ?_; rintro e w1 ⟨rfl, rfl⟩) | (go_at_call 5; refine (HAW.out _ HE2.out).mono ?_; rintro e w3 ⟨rfl, hb⟩; have HB3 : Hid (Below w.heap.size w w3) := Lib.hid (HBZ.out.trans (hb.mono HBZ.out.size)); clear hb))
    go_ret
    exact ⟨rfl, HB3.out⟩
  | false =>
    have HPU := Lib.hid (sput_any l A c w HS.out HI.out)
    by_cases hw0 : wrongL l = 0
    case neg =>
      have HWR := Lib.hid (fun W hW => srwrong_any l A c W hW)
      rw [if_neg hw0] at HPU
      generalize wrongL l = er at *
      have hb0 : (er != 0) = true := by simpa using hw0
      go_enter Tryd.func3, Tryd.ntmps3
      go_wp2_with (go_at_call 6; refine HPU.out.mono ?_)
      rintro e w1 ⟨rfl, hb1⟩
      have HB1 := Lib.hid hb1
      have HS1 := Lib.hid ((HS.out.below hb1).mono hb1.size)
      clear hb1
      go_wp2_with (go_at_call 7; refine (HWR.out _ HS1.out).mono ?_)
      rintro e w2 ⟨rfl, hb2⟩
      have HB2 : Hid (Below w.heap.size w w2) := Lib.hid (HB1.out.trans (hb2.mono HB1.out.size))
      clear hb2
      go_wp2_with (go_at_call 5; refine (HAW.out _ (HE.out.below HB2.out)).mono ?_; rintro e w3 ⟨rfl, hb⟩; have HB3 : Hid (Below w.heap.size w w3) := Lib.hid (HB2.out.trans (hb.mono HB2.out.size)); clear hb)
      go_ret
      exact ⟨rfl, HB3.out⟩
    obtain ⟨hl2, hR⟩ := wrongL_zero hw0
    have HR := Lib.hid hR
    have HWR := Lib.hid (fun W hW => srwrong_any l A c W hW)
    have HPR := Lib.hid (fun W hW => srput_any l A c W hW HI.out hw0)
    rw [if_pos hw0, hw0] at HPU
    rw [hw0] at HWR
    have HGP : Hid (getL (putL l) = (l, 0)) := Lib.hid (getL_put (fun x hx => ⟨HI.out x hx, HR.out x hx⟩) hl2)
    have hpl : (putL l).length ≤ 100000 := by
      have h1 := steps_len HI.out
      have h2 := putN_len (n := (l.length : Int)) (I64_small (by omega) (by omega))
      unfold putL
      rw [List.length_append]
      omega
    have HGE := Lib.hid (fun W => sget_any (putL l) W (by omega))
    rw [HGP.out] at HGE
    have HSM := Lib.hid (fun (A1 : Option Addr) (c1 : Nat) (W : World) h1 h2 => rsame_any l l A1 A c1 c W h1 h2 (by omega) (by omega))
    rw [decide_eq_true (rfl : l = l)] at HSM
    generalize putL l = s at *
    clear hw0 hR HGP
    go_enter Tryd.func3, Tryd.ntmps3
    go_wp2_with (go_at_call 6; refine HPU.out.mono ?_)
    rintro e w1 ⟨rfl, hb1⟩
    have HB1 := Lib.hid hb1
    have HS1 := Lib.hid ((HS.out.below hb1).mono hb1.size)
    clear hb1
    go_wp2_with (go_at_call 7; refine (HWR.out _ HS1.out).mono ?_)
    rintro e w2 ⟨rfl, hb2⟩
    have HB2 : Hid (Below w.heap.size w w2) := Lib.hid (HB1.out.trans (hb2.mono HB1.out.size))
    clear hb2
    go_wp2_with (go_at_call 8; refine (HGE.out _).mono ?_)
    rintro e w3 ⟨A3, c3, rfl, hs3, hb3⟩
    have HB3 : Hid (Below w.heap.size w w3) := Lib.hid (HB2.out.trans (hb3.mono HB2.out.size))
    have HG3 := Lib.hid hs3
    clear hs3 hb3
    go_wp2_with fail
    go_loopw [11] (fun i wr => ∃ k : Nat, k ≤ l.length ∧ i = .int .i64 k ∧ Hid (Below w3.heap.size w3 wr)) (fun i _ => l.length - (intOf i).toNat)
    case atStart => exact ⟨0, Nat.zero_le _, rfl, Below.refl _ _⟩
    case round =>
      obtain ⟨k, hk, rfl, HB⟩ := hrel
      have HBW : Hid (Below w.heap.size w wr) := Lib.hid (HB3.out.trans (HB.out.mono HB3.out.size))
      by_cases hlt : k < l.length
      · obtain ⟨bb, o, rfl, hb, e0, e1, e2, e3, e4, e5, e6, e7, e8⟩ := st_at ((HS.out.below HBW.out).mono HBW.out.size) hlt
        have HCK := Lib.hid (fun W => scheck_any l[k] W)
        have her : errS l[k] = 0 := by unfold errS; rw [HR.out _ (List.getElem_mem hlt)]; rfl
        rw [her] at HCK
        unfold stV stCells at HCK
        clear her
        generalize l[k] = x at *
        go_wp2_with (go_at_call 9; refine (HCK.out _).mono ?_; rintro e w4 ⟨rfl, hb4⟩; have HB4 := Lib.hid (HB.out.trans (hb4.mono HB.out.size)); clear hb4)
        go_roundw
        case rel => exact ⟨k + 1, by omega, by go_num, HB4⟩
        case measure => simp [intOf]; omega
      · obtain rfl : k = l.length := by omega
        go_wp2_with (go_at_call 5; refine (HAW.out _ (HE.out.below HBW.out)).mono ?_)
        rintro e w5 ⟨rfl, hb5⟩
        have HB5 : Hid (Below w.heap.size w w5) := Lib.hid (HBW.out.trans (hb5.mono HBW.out.size))
        have HB5b : Hid (Below w3.heap.size w3 w5) := Lib.hid (HB.out.trans (hb5.mono HB.out.size))
        clear hb5
        go_wp2_with (go_at_call 10; refine (HPR.out _ ((HS.out.below HB5.out).mono HB5.out.size)).mono ?_)
        rintro e w6 ⟨rfl, hb6⟩
        have HB6 : Hid (Below w.heap.size w w6) := Lib.hid (HB5.out.trans (hb6.mono HB5.out.size))
        have HB6b : Hid (Below w3.heap.size w3 w6) := Lib.hid (HB5b.out.trans (hb6.mono HB5b.out.size))
        clear hb6
        go_wp2_with (go_at_call 11; refine (HSM.out A3 c3 _ ((HG3.out.below HB6b.out).mono HB6b.out.size) ((HS.out.below HB6.out).mono HB6.out.size)).mono ?_; rintro e w7 ⟨rfl, hb7⟩; have HB7 : Hid (Below w.heap.size w w7) := Lib.hid (HB6.out.trans (hb7.mono HB6.out.size)); clear hb7)
        go_ret
        exact ⟨rfl, HB7.out⟩
end Go.Proofs.YtmplokdbbhlomaaDoor
