/-
  The walk of ShareFair, over this seat's translation.
-/
import Derived.Test.YtblplkajgbbkdaaFairLaw
import Derived.Test.YtblplkajgbbkdaaFair
import Derived.Test.YtblplkajgbbkdaaLaw03a
import Derived.Test.YtblplkajgbbkdaaBel
namespace Go.Proofs.Ytblplkajgbbkdaa
open Go.RowKit Go.Lib Go.Sort

/-- One comparison of two weights and two parts. -/
def OrdP (wi wk zi zk : Int) : Prop := (wi < wk → zi ≤ zk) ∧ (wk < wi → zk ≤ zi) ∧ (wk = wi → zi ≤ zk)
structure PairC (l zs : List Int) (i b o b1 o1 : Nat) (hi : i < l.length) (hi' : i < zs.length) (W : World) : Prop where
  w : W.cell? ⟨b, o + i, none⟩ = some (.int .i64 l[i])
  z : W.cell? ⟨b1, o1 + i, none⟩ = some (.int .i64 zs[i])
theorem pair_cells {B B1 b o b1 o1 i : Nat} {l zs : List Int} {W : World} (h : Seg W B (some ⟨b, o, none⟩) (l.map (Value.int .i64))) (h1 : Seg W B1 (some ⟨b1, o1, none⟩) (zs.map (Value.int .i64))) (hi : i < l.length) (hi' : i < zs.length) : PairC l zs i b o b1 o1 hi hi' W := by
  obtain ⟨x, y, e, _, hc⟩ := h.at (k := i) (by simpa using hi)
  obtain ⟨x1, y1, e1, _, hc1⟩ := h1.at (k := i) (by simpa using hi')
  injection e with e
  injection e with ea eb
  injection e1 with e1
  injection e1 with ec ed
  subst ea eb ec ed
  rw [List.getElem_map] at hc hc1
  exact ⟨hc, hc1⟩
set_option maxHeartbeats 6400000 in
set_option maxRecDepth 1000000 in
theorem fair_law (T : Int) (l : List Int) (A : Option Addr) (c : Nat) (w : World) (hT : I64 T) (hl : ∀ x ∈ l, I64 x) (hs : Seg w w.heap.size A (l.map (Value.int .i64))) (hn : l.length ≤ maxLen) :
    Calls Try.prog 5 #[.int .i64 T, .slice A l.length c] w fun e w' => e = .returned (.bool true) ∧ Below w.heap.size w w' := by
  have hn' := hn
  unfold maxLen at hn'
  by_cases hbig : 40 < l.length
  · have q1 : decide ((40 : Int) < (l.length : Int)) = true := by simp only [decide_eq_true_eq]; omega
    clear hl hs
    go_enter Try.func5, Try.ntmps5
    go_wp2_with fail
    refine (awake3_any _).mono ?_
    rintro e w1 ⟨rfl, hb1⟩
    have HB1 := Lib.hid hb1
    clear hb1
    go_wp2_with fail
    go_ret
    exact ⟨rfl, HB1.out⟩
  have hn2 : l.length ≤ 40 := by omega
  have HP := Lib.hid (Apportion_any T l A c w hT hl hs hn)
  by_cases he : ¬ appE T l = 0
  · have hz := appE_ne he
    rw [hz] at HP
    have heb : (appE T l != 0) = true := by simpa [bne] using he
    clear hz he hl hs hT
    generalize appE T l = E at *
    go_enter Try.func5, Try.ntmps5
    go_wp2_with fail
    refine HP.out.mono ?_
    rintro e w1 ⟨A1, c1, rfl, hs1, hb1⟩
    have HB1 := Lib.hid hb1
    clear hs1 hb1
    go_wp2_with fail
    refine (awake3_any _).mono ?_
    rintro e w2 ⟨rfl, hb2⟩
    have HB2 : Hid (Below w.heap.size w w2) := HB1.out.trans (hb2.mono HB1.out.size)
    clear hb2
    go_wp2_with fail
    go_ret
    exact ⟨rfl, HB2.out⟩
  have he := Decidable.not_not.1 he
  have F := appE_eq he
  rw [he] at HP
  obtain ⟨hlen, hsum, hpos, hall, hamt, hbd, hfair, hord⟩ := F
  clear he
  generalize appL T l = zs at *
  have HLEN := Lib.hid hlen
  have HZI : Hid (∀ x ∈ zs, I64 x) := fun x hx => by
    obtain ⟨i, hi, rfl⟩ := List.mem_iff_getElem.1 hx
    have := hbd i hi
    unfold I64 at *
    omega
  have HS := Lib.hid hs
  have HI := Lib.hid hl
  have HSUM := Lib.hid hsum
  have HALL := Lib.hid hall
  have HBD := Lib.hid hbd
  have HFAIR := Lib.hid hfair
  have HORD := Lib.hid hord
  have hle : zs.length ≤ l.length := by omega
  have hge : l.length ≤ zs.length := by omega
  have hTT : T ≤ 9223372036854775807 := by unfold I64 at hT; omega
  have hS0 : 0 ≤ sumI l := sum_nonneg hall
  have hSS : sumI l ≤ 9223372036854775807 := by unfold I64 at hamt; omega
  have HAM := Lib.hid (amt_in hamt)
  have HAT := Lib.hid (amt_in hT)
  have HTI := Lib.hid hT
  clear hlen hsum hall hamt hbd hfair hord hs hl hT
  have HR1 : Hid (∀ W, Below w.heap.size w W → Calls Try.prog 19 #[.slice A l.length c] W fun e w' => e = .returned (.tuple #[.int .i64 (sumI l), .int .i64 0]) ∧ Below W.heap.size W w') := fun W hW => by
    have h := refsum_any l A c W HI.out ((HS.out.below hW).mono hW.size) (by omega)
    rw [HAM.out.1, HAM.out.2] at h
    exact h.mono fun e w' ⟨a, b⟩ => ⟨a, b ▸ Below.refl _ _⟩
  have HR2 : Hid (∀ (A1 : Option Addr) (c1 : Nat) (W : World), Seg W W.heap.size A1 (zs.map (Value.int .i64)) → Calls Try.prog 19 #[.slice A1 zs.length c1] W fun e w' => e = .returned (.tuple #[.int .i64 T, .int .i64 0]) ∧ Below W.heap.size W w') := fun A1 c1 W hW => by
    have h := refsum_any zs A1 c1 W HZI.out hW (by omega)
    rw [HSUM.out, HAT.out.1, HAT.out.2] at h
    exact h.mono fun e w' ⟨a, b⟩ => ⟨a, b ▸ Below.refl _ _⟩
  generalize sumI l = S at *
  go_enter Try.func5, Try.ntmps5
  go_wp2_with fail
  refine HP.out.mono ?_
  rintro e w1 ⟨A1, c1, rfl, hs1, hb1⟩
  have HS1 := Lib.hid hs1
  have HB1 := Lib.hid hb1
  clear hs1 hb1 HP
  go_wp2_with fail
  refine (HR1.out _ HB1.out).mono ?_
  rintro e w2 ⟨rfl, hb2⟩
  have HS2 : Hid (Seg w2 w2.heap.size A1 (zs.map (Value.int .i64))) := (HS1.out.below hb2).mono hb2.size
  have HB2 : Hid (Below w.heap.size w w2) := HB1.out.trans (hb2.mono HB1.out.size)
  clear hb2 HR1
  go_wp2_with fail
  refine (HR2.out A1 c1 _ HS2.out).mono ?_
  rintro e w3 ⟨rfl, hb3⟩
  have HS3 : Hid (Seg w3 w3.heap.size A1 (zs.map (Value.int .i64))) := (HS2.out.below hb3).mono hb3.size
  have HB3 : Hid (Below w.heap.size w w3) := HB2.out.trans (hb3.mono HB2.out.size)
  have hw3 := HB3.out.size
  clear hb3 HR2 HS1 HS2 HB1 HB2
  have e1 : ((zs.length : Int) != (l.length : Int)) = false := by have := HLEN.out; simp; omega
  have e1' : (zs.length != l.length) = false := by have := HLEN.out; simp; omega
  go_wp2_with fail
  clear e1 e1'
  go_loopw [11, 12] (fun i _ wr => ∃ k : Nat, k ≤ zs.length ∧ i = .int .i64 k ∧ Hid (Below w3.heap.size w3 wr)) (fun i _ _ => zs.length - (intOf i).toNat)
  case atStart => exact ⟨0, Nat.zero_le _, rfl, Below.refl _ _⟩
  case round =>
    obtain ⟨i, hk, rfl, HB⟩ := hrel
    have hsz := HB.out.size
    obtain ⟨wo, rfl⟩ : ∃ wo : World, wo = wr := ⟨_, rfl⟩
    by_cases hlt : i < zs.length
    · have hltl : i < l.length := by omega
      obtain ⟨b, o, rfl, hb, -⟩ := HS.out.at (k := i) (by simpa using hltl)
      obtain ⟨b1, o1, rfl, hb1, -⟩ := HS3.out.at (k := i) (by simpa using hlt)
      have HWO : Hid (Below w.heap.size w wo) := HB3.out.trans (HB.out.mono hw3)
      have HPC : Hid (∀ (W : World) (j : Nat) (h : j < l.length) (h' : j < zs.length), Below wo.heap.size wo W → PairC l zs j b o b1 o1 h h' W) := fun W j h h' hW => pair_cells (HS.out.below (HWO.out.trans (hW.mono (by omega)))) (HS3.out.below (HB.out.trans (hW.mono (by omega)))) h h'
      obtain ⟨q0, q1⟩ := HPC.out wo i hltl hlt (Below.refl _ _)
      have hk0 : (0 : Int) ≤ (i : Int) := by omega
      have hkb : (i : Int) < (l.length : Int) := by omega
      have hkb2 : (i : Int) < (zs.length : Int) := by omega
      have HOI : Hid (∀ k (g : k < l.length) (g' : k < zs.length), k < i → OrdP l[i] l[k] zs[i] zs[k]) := fun k g g' hki => HORD.out i k hlt hltl g' g hki
      have HWB : Hid (0 ≤ l[i] ∧ l[i] ≤ 9223372036854775807) := by
        have h1 := HALL.out _ (List.getElem_mem hltl)
        have h2 := HI.out _ (List.getElem_mem hltl)
        unfold I64 at h2
        exact ⟨h1, by omega⟩
      have HZB : Hid (0 ≤ zs[i] ∧ zs[i] ≤ T) := HBD.out i hlt
      have HFI : Hid (0 < S → FairP zs[i] T l[i] S) := fun h => HFAIR.out i hlt hltl h
      obtain ⟨p, hp⟩ : ∃ p, p = zs[i] := ⟨_, rfl⟩
      obtain ⟨wt, hwt⟩ : ∃ wt, wt = l[i] := ⟨_, rfl⟩
      rw [← hp] at q1 HZB HFI HOI
      rw [← hwt] at q0 HWB HFI HOI
      have HPE := Lib.hid hp
      have HWE := Lib.hid hwt
      clear hp hwt
      by_cases hS : 0 < S
      · have hSb : decide (0 < S) = true := decide_eq_true hS
        have HFA : Hid (∀ W, Calls Try.prog 20 #[.int .i64 p, .int .i64 T, .int .i64 wt, .int .i64 S] W fun e w' => e = .returned (.bool true) ∧ Below W.heap.size W w') := fun W => by
          obtain ⟨f1, f2⟩ := HFI.out hS
          have h1 := HZB.out
          have h2 := HWB.out
          exact fair_any p T wt S W h1.1 (by omega) hpos hTT h2.1 h2.2 hS0 hSS f1 f2
        go_wp2_with fail
        have hbel : ∀ (n : Bel wo.heap.size wo) (b o : Nat), b < wo.heap.size → n.wd.cell? ⟨b, o, none⟩ = wo.cell? ⟨b, o, none⟩ := fun n b o hb => Bel.cells n b o hb
        have hbb : b < wo.heap.size := by omega
        have hbb1 : b1 < wo.heap.size := by omega
        refine wp_region_bel wo.heap.size (by kernel_rfl) (by kernel_rfl) ?_
        repeat (go_big_quiet_step ((go_at_call 20; exact Calls.bel_of (Nat.le_refl _) (HFA.out _))))
        refine wpQuiet_nil ?_
        intro w5 hw5
        obtain ⟨nb, rfl⟩ := hw5
        have HB5 := Lib.hid nb.h
        obtain ⟨w5, hw5⟩ : ∃ w5 : World, w5 = nb.wd := ⟨_, rfl⟩
        rw [← hw5] at HB5 ⊢
        clear hw5 hbel hbb hbb1 hSb
        have sz5 := HB5.out.size
        go_wp2_with fail
        go_loopw [12] (fun u wr => ∃ k : Nat, k ≤ i ∧ u = .int .i64 k ∧ Hid (Below wo.heap.size wo wr)) (fun u _ => i - (intOf u).toNat)
        case atStart => exact ⟨0, Nat.zero_le _, rfl, HB5.out⟩
        case round =>
          obtain ⟨k, hki, rfl, HBk⟩ := hrel
          have szk := HBk.out.size
          by_cases hlk : k < i
          · have hkl : k < l.length := by omega
            have hkz : k < zs.length := by omega
            obtain ⟨r0, r1⟩ := HPC.out wr k hkl hkz HBk.out
            obtain ⟨s0, s1⟩ := HPC.out wr i hltl hlt HBk.out
            have hO := HOI.out k hkl hkz hlk
            have hj0 : (0 : Int) ≤ (k : Int) := by omega
            have hjb : (k : Int) < (l.length : Int) := by omega
            have hjb2 : (k : Int) < (zs.length : Int) := by omega
            rw [← HPE.out] at s1
            rw [← HWE.out] at s0
            generalize zs[k] = y at *
            generalize l[k] = v at *
            obtain ⟨o1_, o2_, o3_⟩ := hO
            rcases Int.lt_trichotomy wt v with hc | hc | hc
            · have hy := o1_ hc
              have t1 : decide (wt < v) = true := decide_eq_true hc
              have t2 : decide (y < p) = false := decide_eq_false (by omega)
              have t3 : decide (v < wt) = false := decide_eq_false (by omega)
              have t4 : (v == wt) = false := by rw [beq_eq_false_iff_ne]; omega
              clear o1_ o2_ o3_ hy hc
              go_wp2_with fail
              go_quiet (fail)
              go_wp2_with fail
              go_roundw
              case rel => exact ⟨k + 1, by omega, by go_num, below_drewN HBk.out nq⟩
              case measure => simp [intOf]; omega
            · have hy := o3_ hc.symm
              have t1 : decide (wt < v) = false := decide_eq_false (by omega)
              have t2 : decide (y < p) = false := decide_eq_false (by omega)
              have t3 : decide (v < wt) = false := decide_eq_false (by omega)
              have t4 : (v == wt) = true := by rw [beq_iff_eq]; omega
              clear o1_ o2_ o3_ hy hc
              go_wp2_with fail
              go_quiet (fail)
              go_wp2_with fail
              go_roundw
              case rel => exact ⟨k + 1, by omega, by go_num, below_drewN HBk.out nq⟩
              case measure => simp [intOf]; omega
            · have hy := o2_ hc
              have t1 : decide (wt < v) = false := decide_eq_false (by omega)
              have t2 : decide (p < y) = false := decide_eq_false (by omega)
              have t3 : decide (v < wt) = true := decide_eq_true hc
              have t4 : (v == wt) = false := by rw [beq_eq_false_iff_ne]; omega
              clear o1_ o2_ o3_ hy hc
              go_wp2_with fail
              go_quiet (fail)
              go_wp2_with fail
              go_roundw
              case rel => exact ⟨k + 1, by omega, by go_num, below_drewN HBk.out nq⟩
              case measure => simp [intOf]; omega
          · obtain rfl : k = i := by omega
            go_wp2_with fail
            go_roundw
            case rel => exact ⟨k + 1, by omega, by go_num, HB.out.trans (HBk.out.mono hsz)⟩
            case measure => simp [intOf]; omega
      · have hSb : decide (0 < S) = false := decide_eq_false hS
        go_wp2_with fail
        go_quiet (fail)
        have HB5 : Hid (Below wo.heap.size wo (wo.drewN nq)) := below_drewN (Below.refl _ _) nq
        generalize wo.drewN nq = w5 at *
        clear hSb
        have sz5 := HB5.out.size
        go_wp2_with fail
        go_loopw [12] (fun u wr => ∃ k : Nat, k ≤ i ∧ u = .int .i64 k ∧ Hid (Below wo.heap.size wo wr)) (fun u _ => i - (intOf u).toNat)
        case atStart => exact ⟨0, Nat.zero_le _, rfl, HB5.out⟩
        case round =>
          obtain ⟨k, hki, rfl, HBk⟩ := hrel
          have szk := HBk.out.size
          by_cases hlk : k < i
          · have hkl : k < l.length := by omega
            have hkz : k < zs.length := by omega
            obtain ⟨r0, r1⟩ := HPC.out wr k hkl hkz HBk.out
            obtain ⟨s0, s1⟩ := HPC.out wr i hltl hlt HBk.out
            have hO := HOI.out k hkl hkz hlk
            have hj0 : (0 : Int) ≤ (k : Int) := by omega
            have hjb : (k : Int) < (l.length : Int) := by omega
            have hjb2 : (k : Int) < (zs.length : Int) := by omega
            rw [← HPE.out] at s1
            rw [← HWE.out] at s0
            generalize zs[k] = y at *
            generalize l[k] = v at *
            obtain ⟨o1_, o2_, o3_⟩ := hO
            rcases Int.lt_trichotomy wt v with hc | hc | hc
            · have hy := o1_ hc
              have t1 : decide (wt < v) = true := decide_eq_true hc
              have t2 : decide (y < p) = false := decide_eq_false (by omega)
              have t3 : decide (v < wt) = false := decide_eq_false (by omega)
              have t4 : (v == wt) = false := by rw [beq_eq_false_iff_ne]; omega
              clear o1_ o2_ o3_ hy hc
              go_wp2_with fail
              go_quiet (fail)
              go_wp2_with fail
              go_roundw
              case rel => exact ⟨k + 1, by omega, by go_num, below_drewN HBk.out nq⟩
              case measure => simp [intOf]; omega
            · have hy := o3_ hc.symm
              have t1 : decide (wt < v) = false := decide_eq_false (by omega)
              have t2 : decide (y < p) = false := decide_eq_false (by omega)
              have t3 : decide (v < wt) = false := decide_eq_false (by omega)
              have t4 : (v == wt) = true := by rw [beq_iff_eq]; omega
              clear o1_ o2_ o3_ hy hc
              go_wp2_with fail
              go_quiet (fail)
              go_wp2_with fail
              go_roundw
              case rel => exact ⟨k + 1, by omega, by go_num, below_drewN HBk.out nq⟩
              case measure => simp [intOf]; omega
            · have hy := o2_ hc
              have t1 : decide (wt < v) = false := decide_eq_false (by omega)
              have t2 : decide (p < y) = false := decide_eq_false (by omega)
              have t3 : decide (v < wt) = true := decide_eq_true hc
              have t4 : (v == wt) = false := by rw [beq_eq_false_iff_ne]; omega
              clear o1_ o2_ o3_ hy hc
              go_wp2_with fail
              go_quiet (fail)
              go_wp2_with fail
              go_roundw
              case rel => exact ⟨k + 1, by omega, by go_num, below_drewN HBk.out nq⟩
              case measure => simp [intOf]; omega
          · obtain rfl : k = i := by omega
            go_wp2_with fail
            go_roundw
            case rel => exact ⟨k + 1, by omega, by go_num, HB.out.trans (HBk.out.mono hsz)⟩
            case measure => simp [intOf]; omega
    · obtain rfl : i = zs.length := by omega
      go_wp2_with fail
      refine (awake3_any _).mono ?_
      rintro e w7 ⟨rfl, hb7⟩
      have HB7 : Hid (Below w.heap.size w w7) := HB3.out.trans ((HB.out.trans (hb7.mono hsz)).mono hw3)
      clear hb7
      go_wp2_with fail
      go_ret
      exact ⟨rfl, HB7.out⟩
end Go.Proofs.Ytblplkajgbbkdaa
